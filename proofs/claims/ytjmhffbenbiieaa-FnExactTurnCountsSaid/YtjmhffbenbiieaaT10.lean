import Derived.Test.YtjmhffbenbiieaaT4
set_option linter.unusedVariables false
set_option linter.unusedSimpArgs false
namespace Go.Proofs.Ytjmhffbenbiieaa.Ev
open Go.RowKit

theorem dec_host (x : HostV) : elHost.dec (elHost.enc x) = some x := rfl
theorem ok_clone (hs : List HostV) (hl : hs.length ≤ 1048576) : Ok cx 31 [.one (.row elHost hs)] [] [] [.one (.row elHost hs)] [] [] := by
  refine Ok_of_vc (C := cx) cx_ok cx_mix (fn := Try.f31) rfl (by kernel_rfl) rfl (Nat.le_of_ble_eq_true (by kernel_rfl)) ?_
  conv => whnf
  refine NilG.mk (fun b hb => ?_)
  conv => whnf
  refine ⟨fun h1 => ?_, fun h1 => ?_⟩ <;> conv => whnf
  · have hnil : hs = [] := hb h1
    subst hnil
    refine FinG.weak { sl := [(2, .pv (.one (.ref 1 0)))], rw := [(1, ⟨true, elHost, []⟩)], ob := [], nx := 2, po := [], pr := [] } ?_ ?_
    · repeat' (first | exact True.intro | exact rfl | (refine FinG.done ?_; conv => whnf) | (refine And.intro ?_ ?_) | exact Nat.le_of_ble_eq_true rfl | (refine Two.no rfl ?_; conv => whnf) | (refine Two.yes rfl ?_; conv => whnf))
    · conv => whnf
      repeat' (first | exact True.intro | exact rfl | (refine FinG.done ?_; conv => whnf) | (refine And.intro ?_ ?_) | exact Nat.le_of_ble_eq_true rfl | (refine Two.no rfl ?_; conv => whnf) | (refine Two.yes rfl ?_; conv => whnf))
  · refine AppG.of hs ?_ ?_ ?_
    · show convRow elHost elHost (hs.take hs.length) = some hs
      rw [List.take_length]; exact convRow_self (e := elHost) dec_host hs
    · show (0 + hs.length) * 48 ≤ 140737488355328
      omega
    · conv => whnf
      refine FinG.weak { sl := [(2, .pv (.one (.ref 1 hs.length)))], rw := [(1, ⟨true, elHost, hs⟩)], ob := [], nx := 2, po := [], pr := [] } ?_ ?_
      · repeat' (first | exact True.intro | exact rfl | (refine FinG.done ?_; conv => whnf) | (refine And.intro ?_ ?_) | exact Nat.le_of_ble_eq_true rfl | (refine Two.no rfl ?_; conv => whnf) | (refine Two.yes rfl ?_; conv => whnf))
        all_goals (conv => whnf)
        exact (Nat.zero_add _).symm
      · conv => whnf
        repeat' (first | exact True.intro | exact rfl | (refine FinG.done ?_; conv => whnf) | (refine And.intro ?_ ?_) | exact Nat.le_of_ble_eq_true rfl | (refine Two.no rfl ?_; conv => whnf) | (refine Two.yes rfl ?_; conv => whnf))
        conv => whnf
        exact row_eq (List.take_length (l := hs)).symm
end Go.Proofs.Ytjmhffbenbiieaa.Ev
