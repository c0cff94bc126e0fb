import Derived.Test.YtjmhffbenbiieaaT10
import Derived.Test.YtjmhffbenbiieaaT6
set_option linter.unusedVariables false
set_option linter.unusedSimpArgs false
namespace Go.Proofs.Ytjmhffbenbiieaa.Ev
open Go.RowKit

theorem take_step {l : List HostV} {i : Nat} (z : HostV) (h : i < l.length) : l.take (i + 1) = (l.take i).take i ++ [l.getD i z] := by
  rw [List.take_take, Nat.min_self, List.take_add_one, getD_get l i z h]; rfl
theorem wrap_succ' {i : Nat} (h : i ≤ 9223372036854775806) : IntKind.i64.wrap ((i : Int) + 1) = ((i + 1 : Nat) : Int) := by
  rw [wrap_id (by omega) (by omega)]; rfl
theorem ok_copy (hs : List HostV) (hl : hs.length ≤ 1048576) : Ok cx 26 [.one (.row elHost hs)] [] [] [.one (.row elHost hs)] [] [] := by
  refine Ok_of_vc (C := cx) cx_ok cx_mix (fn := Try.f26) rfl (by kernel_rfl) rfl (Nat.le_of_ble_eq_true (by kernel_rfl)) ?_
  conv => whnf
  refine ⟨Nat, fun i => i ≤ hs.length, fun i => hs.length - i,
      fun i => { sl := [(0, .pv (.one (.ref 0 hs.length))), (3, .pv (.one (.ref 1 i))), (4, .pv (.one (.val (.int .i64 i))))], rw := [(0, ⟨false, elHost, hs⟩), (1, ⟨true, elHost, hs.take i⟩)], ob := [], nx := 2, po := [], pr := [] },
      0, Nat.zero_le _, ?_, fun i hi => ?_⟩
  · repeat' (first | exact True.intro | exact rfl | (refine FinG.done ?_; conv => whnf) | (refine And.intro ?_ ?_) | exact Nat.le_of_ble_eq_true rfl | (refine Two.no rfl ?_; conv => whnf) | (refine Two.yes rfl ?_; conv => whnf))
  · conv => whnf
    refine ⟨fun h2 => ?_, fun h2 => ?_⟩ <;> conv => whnf
    · have hlt : i < hs.length := by simpa using h2
      refine ⟨Int.natCast_nonneg _, by simpa using hlt, ?_⟩
      conv => whnf
      refine AppG.of [hs.getD i hz] (convRow_self (e := elHost) dec_host [hs.getD i hz]) ?_ ?_
      · show (i + 1) * 48 ≤ 140737488355328
        omega
      · conv => whnf
        refine ⟨i + 1, ⟨hlt, show hs.length - (i + 1) < hs.length - i by omega⟩, ?_⟩
        repeat' (first | exact True.intro | exact rfl | (refine FinG.done ?_; conv => whnf) | (refine And.intro ?_ ?_) | exact Nat.le_of_ble_eq_true rfl | (refine Two.no rfl ?_; conv => whnf) | (refine Two.yes rfl ?_; conv => whnf))
        · conv => whnf
          exact (congrArg (Value.int IntKind.i64) (wrap_succ' (by omega))).symm
        · conv => whnf
          exact row_eq (take_step hz hlt)
    · have hge : ¬ (i : Int) < hs.length := by simpa using h2
      have hi' : i = hs.length := by have : i ≤ hs.length := hi; omega
      repeat' (first | exact True.intro | exact rfl | (refine FinG.done ?_; conv => whnf) | (refine And.intro ?_ ?_) | exact Nat.le_of_ble_eq_true rfl | (refine Two.no rfl ?_; conv => whnf) | (refine Two.yes rfl ?_; conv => whnf))
      conv => whnf
      refine row_eq (?_ : hs = List.take i (hs.take i))
      rw [hi']; simp
end Go.Proofs.Ytjmhffbenbiieaa.Ev
