/- Contracts of the laws' helpers on frames: sz, to, eq of dots. -/
import Derived.Test.YtpcaaohdlcoplaaLawI
import Derived.Test.YtpcaaohdlcoplaaArgs
import Derived.Test.YtpcaaohdlcoplaaLawC
import Derived.Test.YtpcaaohdlcoplaaMemR
import Derived.Test.YtpcaaohdlcoplaaDot5
import Derived.Deep.RegionHeld3
namespace Go.Proofs.Ytpcaaohdlcoplaa
open Go.ChangeShapes Go.WideShapes Go.ChangeAt Go.RowKit
set_option linter.unusedVariables false
def szLeftD (left len : Int) : Int := if left - len < 0 then -1 else left - len
theorem szLeftD_neg {left len : Int} (h : left - len < 0) : szLeftD left len = -1 := if_pos h
theorem szLeftD_pos {left len : Int} (h : ¬ left - len < 0) : szLeftD left len = left - len := if_neg h
def aggD (p h n d y : Int) : Value := .agg #[.int .i64 p, .int .i64 h, .int .i64 n, .int .i64 d, .int .i64 y]
theorem rdD_at {w : World} {a : Option Addr} {n cap : Nat} {xs : List Dot5} (h : RdRow 5 rowD w (.slice a n cap) xs) (k : Nat) (hk : k < xs.length) : ∃ b off, a = some ⟨b, off, none⟩ ∧
    w.cell? ⟨b, off + k * 5, none⟩ = some (.int .i64 xs[k].1) ∧ w.cell? ⟨b, off + k * 5 + 1, none⟩ = some (.int .i64 xs[k].2.1) ∧ w.cell? ⟨b, off + k * 5 + 2, none⟩ = some (.int .i64 xs[k].2.2.1) ∧ w.cell? ⟨b, off + k * 5 + 3, none⟩ = some (.int .i64 xs[k].2.2.2.1) ∧ w.cell? ⟨b, off + k * 5 + 4, none⟩ = some (.int .i64 xs[k].2.2.2.2) := by
  obtain ⟨a', cap', he, _, hc⟩ := h
  cases he
  obtain ⟨b, off, ha, hx⟩ := hc k hk
  refine ⟨b, off, ha, ?_, hx 1 _ rfl, hx 2 _ rfl, hx 3 _ rfl, hx 4 _ rfl⟩
  have h0 := hx 0 _ rfl
  rw [Nat.add_zero] at h0; exact h0
end Go.Proofs.Ytpcaaohdlcoplaa
