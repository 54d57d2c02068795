/- The words of hands; decimal texts behind a name. -/
import Derived.Test.YtddfdppoclnpcaaDoorDoorF
import Derived.Deep.RegionHeld3
namespace Go.Proofs.YtddfdppoclnpcaaDoor
open Go.ChangeShapes Go.WideShapes Go.ChangeAt Go.RowKit
set_option linter.unusedVariables false
set_option linter.unusedSimpArgs false
/-- the word of a hand -/
def handT (h : Int) : ByteArray := if h = -1 then ⟨#[97, 105, 114]⟩ else if h = 0 then ⟨#[108, 101, 102, 116]⟩ else if h = 1 then ⟨#[114, 105, 103, 104, 116]⟩ else ⟨#[]⟩
theorem handT_size (h : Int) : (handT h).size ≤ 5 := by
  unfold handT
  split
  · decide
  · split
    · decide
    · split <;> decide
def spT : ByteArray := ⟨#[32]⟩
theorem c_impl_handWord (h : Int) (w : World) : Calls Tryd.prog 37 #[.int .i64 h] w fun e w' => e = .returned (.string (handT h)) ∧ w = w' := by
  by_cases h1 : h = -1
  · subst h1
    go_enter Tryd.func37, Tryd.ntmps37
    go_wp2
    go_ret
    exact ⟨rfl, rfl⟩
  · by_cases h2 : h = 0
    · subst h2
      go_enter Tryd.func37, Tryd.ntmps37
      go_wp2
      go_ret
      exact ⟨rfl, rfl⟩
    · by_cases h3 : h = 1
      · subst h3
        go_enter Tryd.func37, Tryd.ntmps37
        go_wp2
        go_ret
        exact ⟨rfl, rfl⟩
      · have HH : Hid (handT h = ⟨#[]⟩) := by unfold Hid handT; rw [if_neg h1, if_neg h2, if_neg h3]
        have t1 : (h == -1) = false := by simpa using h1
        have t2 : (h == 0) = false := by simpa using h2
        have t3 : (h == 1) = false := by simpa using h3
        go_enter Tryd.func37, Tryd.ntmps37
        go_wp2
        go_ret
        exact ⟨by rw [HH.out]; rfl, rfl⟩
theorem c_spec_l26Hand (h : Int) (w : World) : Calls Tryd.prog 35 #[.int .i64 h] w fun e w' => e = .returned (.string (handT h)) ∧ w = w' := by
  by_cases h1 : h = -1
  · subst h1
    go_enter Tryd.func35, Tryd.ntmps35
    go_wp2
    go_ret
    exact ⟨rfl, rfl⟩
  · by_cases h2 : h = 0
    · subst h2
      go_enter Tryd.func35, Tryd.ntmps35
      go_wp2
      go_ret
      exact ⟨rfl, rfl⟩
    · by_cases h3 : h = 1
      · subst h3
        go_enter Tryd.func35, Tryd.ntmps35
        go_wp2
        go_ret
        exact ⟨rfl, rfl⟩
      · have HH : Hid (handT h = ⟨#[]⟩) := by unfold Hid handT; rw [if_neg h1, if_neg h2, if_neg h3]
        have t1 : (h == -1) = false := by simpa using h1
        have t2 : (h == 0) = false := by simpa using h2
        have t3 : (h == 1) = false := by simpa using h3
        go_enter Tryd.func35, Tryd.ntmps35
        go_wp2
        go_ret
        exact ⟨by rw [HH.out]; rfl, rfl⟩
theorem c_decI (n : Int) (D : ByteArray) (hD : Hid (decT n = D)) (w : World) (hn : inI n) (ht : Tab w) :
    Calls Tryd.prog 36 #[.int .i64 n] w fun e w' => e = .returned (.string D) ∧ Below w.heap.size w w' := by
  rw [← hD.out]; exact c_impl_Decimal n w hn ht
theorem c_decS (n : Int) (D : ByteArray) (hD : Hid (decT n = D)) (w : World) (hn : inI n) :
    Calls Tryd.prog 34 #[.int .i64 n] w fun e w' => e = .returned (.string D) ∧ Below w.heap.size w w' := by
  rw [← hD.out]; exact c_spec_l01Dec n w hn
theorem sp_size : (⟨#[32]⟩ : ByteArray).size ≤ 1 := by decide
end Go.Proofs.YtddfdppoclnpcaaDoor
