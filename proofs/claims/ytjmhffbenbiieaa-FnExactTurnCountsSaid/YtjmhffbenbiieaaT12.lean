import Derived.Test.YtjmhffbenbiieaaT6
set_option linter.unusedVariables false
set_option linter.unusedSimpArgs false
namespace Go.Proofs.Ytjmhffbenbiieaa.Ev
open Go.RowKit

theorem ok_inc (hs : List HostV) (i : Nat) (hi : i < hs.length) : Ok cx 48 [.one (.elp 0 i 5)] [] [⟨true, elHost, hs⟩] [] [] [⟨true, elHost, hs.set i { hs.getD i hz with busy := IntKind.i64.wrap ((hs.getD i hz).busy + 1) }⟩] := by
  refine Ok_of_vc (C := cx) cx_ok cx_mix (fn := Try.f48) rfl (by kernel_rfl) rfl (Nat.le_of_ble_eq_true (by kernel_rfl)) ?_
  conv => whnf
  repeat' (first | exact True.intro | exact rfl | (refine FinG.done ?_; conv => whnf) | (refine And.intro ?_ ?_) | exact Nat.le_of_ble_eq_true rfl | (refine Two.no rfl ?_; conv => whnf) | (refine Two.yes rfl ?_; conv => whnf))
  simp
end Go.Proofs.Ytjmhffbenbiieaa.Ev
