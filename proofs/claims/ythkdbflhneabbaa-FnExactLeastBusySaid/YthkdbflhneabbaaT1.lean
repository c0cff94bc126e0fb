import Derived.Test.YthkdbflhneabbaaTab
set_option linter.unusedVariables false
set_option linter.unusedSimpArgs false
namespace Go.Proofs.Ythkdbflhneabbaa.Ev
open Go.RowKit

abbrev vi (x : Int) : AC := .one (.val (.int .i64 x))
theorem ok_in (a b c : Int) : Ok Try.prog 54 [vi a, vi b, vi c] [] [] [.one (.val (.bool (decide (a ≥ b) && decide (a ≤ c))))] [] [] := by
  refine Ok_of_vc (C := cx) cx_ok cx_mix (fn := Try.f54) rfl (by kernel_rfl) rfl (Nat.le_of_ble_eq_true (by kernel_rfl)) ?_
  conv => whnf
  refine ⟨fun h => ?_, fun h => ?_⟩ <;> conv => whnf
  · refine ⟨⟨rfl, rfl⟩, And.intro ?_ trivial, trivial, trivial, rfl, rfl⟩
    conv => whnf
    trace_state
    rw [h]; rfl
  · refine ⟨⟨rfl, rfl⟩, And.intro ?_ trivial, trivial, trivial, rfl, rfl⟩
    conv => whnf
    trace_state
    rw [h]; rfl
end Go.Proofs.Ythkdbflhneabbaa.Ev
