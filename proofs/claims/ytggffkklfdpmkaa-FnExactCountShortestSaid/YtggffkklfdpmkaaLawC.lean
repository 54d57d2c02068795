/- Contracts of the laws' own conversions. -/
import Derived.Test.YtggffkklfdpmkaaLawI
import Derived.Test.YtggffkklfdpmkaaArgs
namespace Go.Proofs.Ytggffkklfdpmkaa
open Go.ChangeShapes Go.WideShapes Go.ChangeAt Go.RowKit
set_option linter.unusedVariables false
theorem c_laws_toState (h m : Int) (w : World) :
    Calls Try.prog 27 #[.agg #[.int .i64 h, .int .i64 m]] w fun e w' => e = .returned (.agg #[.int .i64 h, .int .i64 m]) ∧ Below w.heap.size w w' := by
  go_enter Try.func27, Try.ntmps27
  go_wp2
  exact bodyPost_ret (v := .agg #[.int .i64 h, .int .i64 m]) (by simp [results, Try.results27, go_sem]) rfl ⟨rfl, by (repeat (first | (with_reducible assumption) | (with_reducible exact Below.refl _ _) | (with_reducible refine Below.setCell ?_ (by first | (simp; done) | (simp; omega)) _) | (with_reducible refine Below.al ?_ _) | (with_reducible refine Below.dr ?_) | (with_reducible refine Below.drN ?_ _) | (with_reducible refine Below.tr ?_ (by with_reducible assumption))))⟩
end Go.Proofs.Ytggffkklfdpmkaa
