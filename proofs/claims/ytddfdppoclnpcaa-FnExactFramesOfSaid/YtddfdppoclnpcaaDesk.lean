/- Contracts on desks: copies, comparisons. -/
import Derived.Test.YtddfdppoclnpcaaLawI
import Derived.Test.YtddfdppoclnpcaaArgs
import Derived.Test.YtddfdppoclnpcaaLawC
namespace Go.Proofs.Ytddfdppoclnpcaa
open Go.ChangeShapes Go.WideShapes Go.ChangeAt Go.RowKit
set_option linter.unusedVariables false
set_option maxHeartbeats 1000000 in
theorem c_laws_toTiming (b d : Int) (w : World) :
    Calls Try.prog 29 #[.agg #[.int .i64 b, .int .i64 d]] w fun e w' => e = .returned (.agg #[.int .i64 b, .int .i64 d]) ∧ Below w.heap.size w w' := by
  go_enter Try.func29, Try.ntmps29
  go_wp2
  exact bodyPost_ret (v := .agg #[.int .i64 b, .int .i64 d]) (by simp [results, Try.results29, go_sem]) rfl ⟨rfl, by (repeat (first | (with_reducible assumption) | (with_reducible exact Below.refl _ _) | (with_reducible refine Below.setCell ?_ (by first | (simp; done) | (simp; omega)) _) | (with_reducible refine Below.al ?_ _) | (with_reducible refine Below.dr ?_) | (with_reducible refine Below.drN ?_ _) | (with_reducible refine Below.tr ?_ (by with_reducible assumption))))⟩
def szLeft (left len : Int) : Int := if left - len < 0 then -1 else left - len
theorem szLeft_neg {left len : Int} (h : left - len < 0) : szLeft left len = -1 := if_pos h
theorem szLeft_pos {left len : Int} (h : ¬ left - len < 0) : szLeft left len = left - len := if_neg h
theorem c_laws_szInt64S (left : Int) (a : Option Addr) (len cap : Nat) (w : World) (hl : (len : Int) ≤ 9223372036854775807) (h0 : 0 ≤ left ∧ left ≤ 1048576) :
    Calls Try.prog 57 #[.slice a len cap, .int .i64 left] w fun e w' => e = .returned (.int .i64 (szLeft left len)) ∧ w = w' := by
  by_cases h : left - (len : Int) < 0
  · have HN := Lib.hid (szLeft_neg h)
    go_enter Try.func57, Try.ntmps57
    go_wp2
    go_ret
    exact ⟨by rw [HN.out]; rfl, rfl⟩
  · have HN := Lib.hid (szLeft_pos h)
    go_enter Try.func57, Try.ntmps57
    go_wp2
    go_ret
    exact ⟨by rw [HN.out]; rfl, rfl⟩
def sameDeskB (xs : List Int) (b d wd : Int) (ys : List Int) (b' d' wd' : Int) : Bool := decide (xs = ys) && decide (b = b') && decide (d = d') && (wd == wd')
end Go.Proofs.Ytddfdppoclnpcaa
