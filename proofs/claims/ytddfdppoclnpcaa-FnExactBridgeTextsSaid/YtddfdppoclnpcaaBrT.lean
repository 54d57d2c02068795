/- Texts of bridges: plain facts. -/
import Derived.Test.YtddfdppoclnpcaaTab
import Derived.Test.YtddfdppoclnpcaaHexI
import Derived.Test.YtddfdppoclnpcaaLawGS
namespace Go.Proofs.Ytddfdppoclnpcaa
open Go.ChangeShapes Go.WideShapes Go.ChangeAt Go.RowKit
set_option linter.unusedVariables false
theorem shortL_bd {n h b : Int} (hh : 1 ≤ h ∧ h ≤ 10) (hb : b ∈ maskL n h) : ∀ (k : Nat) (a : Int), a ∈ maskL n h → (shortL h a b).length = k → ∀ x ∈ shortL h a b, 0 ≤ x ∧ x ≤ h := by
  intro k
  induction k with
  | zero => intro a _ hl x hx; rw [List.eq_nil_of_length_eq_zero hl] at hx; simp at hx
  | succ k ih =>
    intro a ha hl x hx
    by_cases he : a = b
    · subst he; rw [shortL_self] at hx; simp at hx
    · have h1 := shortL_step hh ha hb he
      have hpk := pick_some hh ha hb he
      have hpl := (mem_throwsL (by omega)).1 hpk.1
      rw [h1] at hl hx
      rcases List.mem_cons.1 hx with e | e
      · rw [e]; exact hpl.1
      · exact ih _ (next_mem hh ha hpl.2) (by simpa using hl) x e
theorem bridge_bd {a b : List Int} {h : Int} (hc : brC a b h = 0) : ∀ x ∈ bridgeL a b h, 0 ≤ x ∧ x < 16 := by
  obtain ⟨⟨hva, hvb⟩, hh, ⟨hpa, hpb⟩, he⟩ := brC_ok hc
  have h2 := stM_mem hvb 0 hh hpb
  rw [← he] at h2
  intro x hx
  have := shortL_bd hh h2 _ _ (stM_mem hva 0 hh hpa) rfl x hx
  omega
/-- the texts of the bridges from one pattern to k of the list -/
noncomputable def brRow (X : List (List Int)) (h : Int) (i k : Nat) : List ByteArray := (List.range k).map fun j => hexT (bridgeL (X.getD i []) (X.getD j []) h)
noncomputable def brTab (X : List (List Int)) (h : Int) (k : Nat) : List (List ByteArray) := (List.range k).map fun i => brRow X h i X.length
noncomputable def btX (X : List (List Int)) (h : Int) : List (List ByteArray) := if tabC X h = 0 then brTab X h X.length else []
theorem brRow_succ (X : List (List Int)) (h : Int) (i k : Nat) : brRow X h i (k + 1) = brRow X h i k ++ [hexT (bridgeL (X.getD i []) (X.getD k []) h)] := by simp [brRow, List.range_succ]
theorem brTab_succ (X : List (List Int)) (h : Int) (k : Nat) : brTab X h (k + 1) = brTab X h k ++ [brRow X h k X.length] := by simp [brTab, List.range_succ]
theorem brRow_len (X : List (List Int)) (h : Int) (i k : Nat) : (brRow X h i k).length = k := by simp [brRow]
theorem brTab_len (X : List (List Int)) (h : Int) (k : Nat) : (brTab X h k).length = k := by simp [brTab]
end Go.Proofs.Ytddfdppoclnpcaa
