import Derived.Test.YtjmhffbenbiieaaT12
set_option linter.unusedVariables false
set_option linter.unusedSimpArgs false
namespace Go.Proofs.Ytjmhffbenbiieaa.Ev
open Go.RowKit

theorem ok_dec (hs : List HostV) (i : Nat) (hi : i < hs.length) : Ok cx 50 [.one (.elp 0 i 5)] [] [⟨true, elHost, hs⟩] [] [] [⟨true, elHost, hs.set i { hs.getD i hz with busy := IntKind.i64.wrap ((hs.getD i hz).busy - 1) }⟩] := by
  refine Ok_of_vc (C := cx) cx_ok cx_mix (fn := Try.f50) rfl (by kernel_rfl) rfl (Nat.le_of_ble_eq_true (by kernel_rfl)) ?_
  conv => whnf
  repeat' (first | exact True.intro | exact rfl | (refine FinG.done ?_; conv => whnf) | (refine And.intro ?_ ?_) | exact Nat.le_of_ble_eq_true rfl | (refine Two.no rfl ?_; conv => whnf) | (refine Two.yes rfl ?_; conv => whnf))
  simp
theorem ok_mayGive (h : HostV) : Ok cx 49 [.agg h.cells] [] [] [.one (.val (.bool (decide (h.busy > 0))))] [] [] := by
  refine Ok_of_vc (C := cx) cx_ok cx_mix (fn := Try.f49) rfl (by kernel_rfl) rfl (Nat.le_of_ble_eq_true (by kernel_rfl)) ?_
  conv => whnf
  repeat' (first | exact True.intro | exact rfl | (refine FinG.done ?_; conv => whnf) | (refine And.intro ?_ ?_) | exact Nat.le_of_ble_eq_true rfl | (refine Two.no rfl ?_; conv => whnf) | (refine Two.yes rfl ?_; conv => whnf))
theorem ok_mayTake (h : HostV) : Ok cx 47 [.agg h.cells] [] [] [.one (.val (.bool (!h.down && decide (h.busy < h.room))))] [] [] := by
  refine Ok_of_vc (C := cx) cx_ok cx_mix (fn := Try.f47) rfl (by kernel_rfl) rfl (Nat.le_of_ble_eq_true (by kernel_rfl)) ?_
  conv => whnf
  refine ⟨fun h1 => ?_, fun h1 => ?_⟩ <;> conv => whnf
  · have h1' : (!h.down) = true := h1
    repeat' (first | exact True.intro | exact rfl | (refine FinG.done ?_; conv => whnf) | (refine And.intro ?_ ?_) | exact Nat.le_of_ble_eq_true rfl | (refine Two.no rfl ?_; conv => whnf) | (refine Two.yes rfl ?_; conv => whnf))
    conv => whnf
    rw [h1']; rfl
  · have h1' : (!h.down) = false := h1
    repeat' (first | exact True.intro | exact rfl | (refine FinG.done ?_; conv => whnf) | (refine And.intro ?_ ?_) | exact Nat.le_of_ble_eq_true rfl | (refine Two.no rfl ?_; conv => whnf) | (refine Two.yes rfl ?_; conv => whnf))
    conv => whnf
    rw [h1']; rfl
end Go.Proofs.Ytjmhffbenbiieaa.Ev
