import Derived.Test.YtjmhffbenbiieaaTab
set_option linter.unusedVariables false
set_option linter.unusedSimpArgs false
namespace Go.Proofs.Ytjmhffbenbiieaa.Ev
open Go.RowKit

abbrev vi (x : Int) : AC := .one (.val (.int .i64 x))
theorem ok_in (a b c : Int) : Ok cx 40 [vi a, vi b, vi c] [] [] [.one (.val (.bool (decide (a ≥ b) && decide (a ≤ c))))] [] [] := by
  refine Ok_of_vc (C := cx) cx_ok cx_mix (fn := Try.f40) rfl (by kernel_rfl) rfl (Nat.le_of_ble_eq_true (by kernel_rfl)) ?_
  conv => whnf
  refine Two.mk (fun h => ?_) (fun h => ?_) <;> conv => whnf
  all_goals
    repeat' (first | exact True.intro | exact rfl | (refine FinG.done ?_; conv => whnf) | (refine And.intro ?_ ?_) | exact Nat.le_of_ble_eq_true rfl | (refine Two.no rfl ?_; conv => whnf) | (refine Two.yes rfl ?_; conv => whnf))
    conv => whnf
    rw [h]; rfl
end Go.Proofs.Ytjmhffbenbiieaa.Ev
