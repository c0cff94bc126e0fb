import Derived.Test.YtjmhffbenbiieaaT22
set_option linter.unusedVariables false
set_option linter.unusedSimpArgs false
namespace Go.Proofs.Ytjmhffbenbiieaa.Ev
open Go.RowKit

theorem ntTo_len (hs : List HostV) (now : List Int) : ∀ n, (ntTo hs now n).1.length = now.length
  | 0 => rfl
  | n + 1 => by
    rw [ntTo_succ, ntStep]
    cases (hs.getD n hz).down with
    | true => exact ntTo_len hs now n
    | false => rw [cond_false, ntSet, List.length_set]; exact ntTo_len hs now n
theorem ntOf_len (hs : List HostV) (now : List Int) : (ntOf hs now).1.length = now.length := by
  unfold ntOf
  cases ntOk hs now with
  | false => rfl
  | true =>
    rw [cond_true, ntEnd]
    cases decide ((ntTo hs now hs.length).2.2 ≥ 0) with
    | false => exact ntTo_len hs now _
    | true => rw [cond_true, List.length_set]; exact ntTo_len hs now _
end Go.Proofs.Ytjmhffbenbiieaa.Ev
