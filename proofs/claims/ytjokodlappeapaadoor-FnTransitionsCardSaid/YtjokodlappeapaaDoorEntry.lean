/- Contracts of EntryOf, ExitOf and BridgeOf, the program's and the reference's. -/
import Derived.Test.YtjokodlappeapaaDoorPatW
namespace Go.Proofs.YtjokodlappeapaaDoor
open Go.ChangeShapes Go.WideShapes Go.ChangeAt Go.RowKit
set_option linter.unusedVariables false
set_option linter.unusedSimpArgs false
noncomputable def entryL (p : List Int) (h : Int) : List Int := bif brC p p h == 0 then shortL h (groundI (propsP p)) (stM p 0 h) else []
noncomputable def exitL (p : List Int) (h : Int) : List Int := bif brC p p h == 0 then shortL h (stM p 0 h) (groundI (propsP p)) else []
noncomputable def bridgeL (a b : List Int) (h : Int) : List Int := shortL h (stM a 0 h) (stM b 0 h)
noncomputable def bridgeX (a b : List Int) (h : Int) : List Int := bif brC a b h == 0 then bridgeL a b h else []
theorem short_le {n h a b : Int} (hh : 1 ≤ h ∧ h ≤ 10) (ha : a ∈ maskL n h) (hb : b ∈ maskL n h) : (shortL h a b).length ≤ 1024 := by
  have h3 := farM_bd hh ha hb
  have h4 := maskL_len n h hh
  rw [shortL_len]
  omega
theorem entryL_len (p : List Int) (h : Int) : (entryL p h).length ≤ 1000000 := by
  unfold entryL
  cases hc : (brC p p h == 0)
  · simp
  · obtain ⟨⟨hv, _⟩, hh, ⟨hp, _⟩, _⟩ := brC_ok (by simpa using hc)
    have := short_le hh (ground_mem hh (props_bd hv hh hp)) (stM_mem hv 0 hh hp)
    rw [cond_true]; omega
theorem exitL_len (p : List Int) (h : Int) : (exitL p h).length ≤ 1000000 := by
  unfold exitL
  cases hc : (brC p p h == 0)
  · simp
  · obtain ⟨⟨hv, _⟩, hh, ⟨hp, _⟩, _⟩ := brC_ok (by simpa using hc)
    have := short_le hh (stM_mem hv 0 hh hp) (ground_mem hh (props_bd hv hh hp))
    rw [cond_true]; omega
theorem bridgeL_len {a b : List Int} {h : Int} (hc : brC a b h = 0) : (bridgeL a b h).length ≤ 1024 := by
  obtain ⟨⟨hva, hvb⟩, hh, ⟨hpa, hpb⟩, he⟩ := brC_ok hc
  have h2 := stM_mem hvb 0 hh hpb
  rw [← he] at h2
  exact short_le hh (stM_mem hva 0 hh hpa) h2
theorem bridgeX_len (a b : List Int) (h : Int) : (bridgeX a b h).length ≤ 1000000 := by
  unfold bridgeX
  cases hc : (brC a b h == 0)
  · simp
  · have := bridgeL_len (a := a) (b := b) (h := h) (by simpa using hc)
    rw [cond_true]; omega
theorem c_impl_bridge (a b : List Int) (h : Int) (v1 v2 : Value) (w : World) (hr1 : RdI w v1 a) (hr2 : RdI w v2 b) (hc : brC a b h = 0) :
    Calls Tryd.prog 57 #[v1, v2, .int .i64 h] w fun e w' => ∃ u, e = .returned u ∧ OwnI1 w.heap.size w' u (bridgeL a b h) ∧ Below w.heap.size w w' := by
  have HR1 := Lib.hid hr1
  have HR2 := Lib.hid hr2
  obtain ⟨⟨hva, hvb⟩, hh, ⟨hpa, hpb⟩, he⟩ := brC_ok hc
  have HM1 := Lib.hid (stM_mem hva 0 hh hpa)
  have HM2 : Hid (stM b 0 h ∈ maskL (propsP a) h) := by have h2 := stM_mem hvb 0 hh hpb; rw [← he] at h2; exact h2
  have HVA := Lib.hid hva
  have HVB := Lib.hid hvb
  have HX : Hid (bridgeL a b h = shortL h (stM a 0 h) (stM b 0 h)) := rfl
  clear hr1 hr2 hc hva hvb hpa hpb he
  go_enter Tryd.func57, Tryd.ntmps57
  go_wp2_with fail
  refine (c_impl_stateOf a 0 h _ _ HR1.out HVA.out (by omega) hh).mono ?_; rintro e w1 ⟨rfl, hb1⟩
  go_wp2_with fail
  refine (c_impl_stateOf b 0 h _ _ (HR2.out.below hb1) HVB.out (by omega) hh).mono ?_; rintro e w2 ⟨rfl, hb2⟩
  go_wp2_with fail
  refine (c_impl_shortest (propsP a) h _ _ _ hh HM1.out HM2.out).mono ?_; rintro e w3 ⟨u, rfl, hu, hb3⟩
  have B2 := hb1.tr hb2
  go_wp2
  go_ret
  exact ⟨_, rfl, by rw [HX.out]; exact hu.base B2.size, B2.tr hb3⟩
theorem c_spec_l10Bridge (a b : List Int) (h : Int) (v1 v2 : Value) (w : World) (hr1 : RdI w v1 a) (hr2 : RdI w v2 b) (hc : brC a b h = 0) :
    Calls Tryd.prog 59 #[v1, v2, .int .i64 h] w fun e w' => ∃ u, e = .returned u ∧ OwnI1 w.heap.size w' u (bridgeL a b h) ∧ Below w.heap.size w w' := by
  have HR1 := Lib.hid hr1
  have HR2 := Lib.hid hr2
  obtain ⟨⟨hva, hvb⟩, hh, ⟨hpa, hpb⟩, he⟩ := brC_ok hc
  have HM1 := Lib.hid (stM_mem hva 0 hh hpa)
  have HM2 : Hid (stM b 0 h ∈ maskL (propsP a) h) := by have h2 := stM_mem hvb 0 hh hpb; rw [← he] at h2; exact h2
  have HVA := Lib.hid hva
  have HVB := Lib.hid hvb
  have HX : Hid (bridgeL a b h = shortL h (stM a 0 h) (stM b 0 h)) := rfl
  clear hr1 hr2 hc hva hvb hpa hpb he
  go_enter Tryd.func59, Tryd.ntmps59
  go_wp2_with fail
  refine (c_spec_l08Of a 0 h _ _ HR1.out HVA.out (by omega) hh).mono ?_; rintro e w1 ⟨rfl, hb1⟩
  go_wp2_with fail
  refine (c_spec_l08Of b 0 h _ _ (HR2.out.below hb1) HVB.out (by omega) hh).mono ?_; rintro e w2 ⟨rfl, hb2⟩
  go_wp2_with fail
  refine (c_spec_l10Short (propsP a) h _ _ _ hh HM1.out HM2.out).mono ?_; rintro e w3 ⟨u, rfl, hu, hb3⟩
  have B2 := hb1.tr hb2
  go_wp2
  go_ret
  exact ⟨_, rfl, by rw [HX.out]; exact hu.base B2.size, B2.tr hb3⟩
end Go.Proofs.YtjokodlappeapaaDoor
