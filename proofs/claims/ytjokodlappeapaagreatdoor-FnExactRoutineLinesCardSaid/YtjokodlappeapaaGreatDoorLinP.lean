/- Runs of throws, texts of states, lines of throws: plain facts. -/
import Derived.Test.YtjokodlappeapaaGreatDoorPlainG
import Derived.Test.YtjokodlappeapaaGreatDoorHexI
namespace Go.Proofs.YtjokodlappeapaaGreatDoor
/-- the state behind the first k throws -/
def runM (m : Int) (xs : List Int) (k : Nat) : Int := (xs.take k).foldl nextM m
theorem runM_zero (m : Int) (xs : List Int) : runM m xs 0 = m := rfl
theorem runM_succ (m : Int) (xs : List Int) (k : Nat) (hk : k < xs.length) : runM m xs (k + 1) = nextM (runM m xs k) (xs.getD k 0) := by
  unfold runM
  rw [List.take_succ_eq_append_getElem hk, List.foldl_append]
  simp [List.getD, hk]
def canAt (h m : Int) (xs : List Int) (i : Nat) : Bool := canB h (runM m xs i) (xs.getD i 0)
/-- how many throws are possible one behind the other -/
def runN (h m : Int) (xs : List Int) : Nat := (List.range (xs.length + 1)).findIdx fun i => decide (xs.length ≤ i) || !canAt h m xs i
theorem runN_eq {h m : Int} {xs : List Int} {k : Nat} (hk : k ≤ xs.length) (hall : ∀ i, i < k → canAt h m xs i = true) (hno : k < xs.length → canAt h m xs k = false) : runN h m xs = k := by
  unfold runN
  rw [List.findIdx_eq (by rw [List.length_range]; omega)]
  refine ⟨?_, fun j hj => ?_⟩
  · rw [List.getElem_range]
    by_cases e : k < xs.length
    · simp [hno e]
    · simp; omega
  · rw [List.getElem_range]
    simp [hall j hj]; omega
theorem run_bd {h m : Int} {xs : List Int} (hv : validB h m = true) (k : Nat) (hk : k ≤ xs.length) (hall : ∀ i, i < k → canAt h m xs i = true) : 0 ≤ runM m xs k ∧ runM m xs k < 2 ^ h.toNat := by
  induction k with
  | zero => rw [runM_zero]; have := (validB_iff.1 hv).2; omega
  | succ k ih =>
    have hh := (validB_iff.1 hv).1
    have h1 := ih (by omega) (fun i hi => hall i (by omega))
    rw [runM_succ m xs k (by omega)]
    exact next_bd hh h1 (can_le (by omega) (hall k (by omega))).2
def runOk (h m : Int) (xs : List Int) : Bool := decide (runN h m xs = xs.length)
def runC (h m : Int) (xs : List Int) : Int := bif validB h m then (bif runOk h m xs then 0 else 6) else 1
def runH (h m : Int) : Int := bif validB h m then h else 0
def runS (h m : Int) (xs : List Int) : Int := bif validB h m then runM m xs (runN h m xs) else 0
def runI (h m : Int) (xs : List Int) : Int := bif validB h m then (runN h m xs : Int) else 0
theorem runN_all {h m : Int} {xs : List Int} (hr : runOk h m xs = true) : ∀ i, i < xs.length → canAt h m xs i = true := by
  intro i hi
  unfold runOk runN at hr
  have hr := of_decide_eq_true hr
  rw [List.findIdx_eq (by rw [List.length_range]; omega)] at hr
  have := hr.2 i hi
  rw [List.getElem_range] at this
  simp at this
  exact this.2
theorem run_hex {h m : Int} {xs : List Int} (hv : validB h m = true) (hr : runOk h m xs = true) : ∀ x ∈ xs, 0 ≤ x ∧ x < 16 := by
  intro x hx
  obtain ⟨i, hi, rfl⟩ := List.getElem_of_mem hx
  have hh := (validB_iff.1 hv).1
  have := can_le (by omega) (runN_all hr i hi)
  simp [List.getD, hi] at this
  omega
/-- the text of a state -/
def btxN (m : Int) (t : Nat) : Int := 48 + m / 2 ^ t % 2
def btxTo (m : Int) (k : Nat) : List Int := (List.range k).map (btxN m)
def stT (h m : Int) : ByteArray := strOfNums (btxTo m h.toNat)
theorem btxTo_succ (m : Int) (k : Nat) : btxTo m (k + 1) = btxTo m k ++ [btxN m k] := by simp [btxTo, List.range_succ]
theorem btxTo_len (m : Int) (k : Nat) : (btxTo m k).length = k := by simp [btxTo]
/-- lines with throws, twelve in each -/
def thrS : ByteArray := ⟨#[116, 104, 114, 111, 119, 32]⟩
def lineAt (xs : List Int) (i : Nat) : ByteArray := thrS ++ hexT ((xs.drop (12 * i)).take 12)
def linTo (xs : List Int) (k : Nat) : List ByteArray := (List.range k).map (lineAt xs)
def thrN (n : Nat) : Nat := (n + 11) / 12
def thrL (xs : List Int) : List ByteArray := linTo xs (thrN xs.length)
theorem linTo_succ (xs : List Int) (k : Nat) : linTo xs (k + 1) = linTo xs k ++ [lineAt xs k] := by simp [linTo, List.range_succ]
theorem linTo_len (xs : List Int) (k : Nat) : (linTo xs k).length = k := by simp [linTo]
theorem thrL_len (xs : List Int) : (thrL xs).length = thrN xs.length := linTo_len _ _
theorem part_eq (xs : List Int) (i e : Nat) (hi : i < xs.length) (he : e = if xs.length > i + 12 then i + 12 else xs.length) : (xs.take e).drop i = (xs.drop i).take 12 := by
  rw [List.drop_take]
  subst he
  split
  · congr 1; omega
  · rw [List.take_of_length_le (by rw [List.length_drop]; omega), List.take_of_length_le (by rw [List.length_drop]; omega)]
def staS : ByteArray := ⟨#[115, 116, 97, 114, 116, 32]⟩
def endS : ByteArray := ⟨#[101, 110, 100]⟩
def linC (h m : Int) (xs : List Int) : Int := bif validB h m then (bif runOk h m xs then (bif decide (xs.length ≤ 696) then 0 else 5) else 6) else 1
def linR (h m : Int) (xs : List Int) : List ByteArray := (staS ++ stT h m) :: (thrL xs ++ [endS])
def linL (h m : Int) (xs : List Int) : List ByteArray := bif validB h m && runOk h m xs && decide (xs.length ≤ 696) then linR h m xs else []
end Go.Proofs.YtjokodlappeapaaGreatDoor
