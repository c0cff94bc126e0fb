import Derived.Test.YtjmhffbenbiieaaT6
set_option linter.unusedVariables false
set_option linter.unusedSimpArgs false
namespace Go.Proofs.Ytjmhffbenbiieaa.Ev
open Go.RowKit

theorem szL_spec : ∀ {hs : List HostV} {l : Int}, 0 ≤ l → ¬ szL hs l < 0 → ∀ h ∈ hs, (h.name.size : Int) ≤ l
  | [], l, h0, hn, h, hm => by cases hm
  | x :: t, l, h0, hn, h, hm => by
    rw [szL] at hn
    split at hn
    · omega
    · rename_i hx
      have hx2 : szH x l = l - x.name.size := by
        unfold szH at hx ⊢; split at hx
        · omega
        · rename_i h; rw [if_neg h]
      rw [hx2] at hx hn
      rcases List.mem_cons.1 hm with rfl | hm
      · omega
      · have := szL_spec (by omega) hn h hm
        omega
theorem szS_spec {hs : List HostV} (h : ¬ szS hs 1048576 < 0) : hs.length ≤ 1048576 ∧ ∀ h ∈ hs, h.name.size ≤ 1048576 := by
  unfold szS at h
  split at h
  · omega
  · rename_i h0
    refine ⟨by omega, fun x hx => ?_⟩
    have := szL_spec (by omega) h x hx
    omega
theorem ok_szHostS' {ys hs : List HostV} (e : ys = hs) (left : Int) (h0 : 0 ≤ left) (h1 : left ≤ 1048576) (hl : hs.length ≤ 9223372036854775807) (hn : ∀ h ∈ hs, h.name.size ≤ 9223372036854775807) : Ok cx 5 [.one (.row elHostL ys), vi left] [] [] [.one (.val (.int .i64 (szS hs left)))] [] [] := by
  subst e; exact ok_szHostS _ left h0 h1 hl hn
theorem ok_toHostS' {ys hs : List HostV} (e : ys = hs) (hl : hs.length ≤ 1048576) : Ok cx 7 [.one (.row elHostL ys)] [] [] [.one (.row elHost hs)] [] [] := by
  subst e; exact ok_toHostS _ hl
theorem ok_hostsOk' {ys hs : List HostV} (e : ys = hs) (hl : hs.length ≤ 1048576) (hn : ∀ h ∈ hs, h.name.size ≤ 1048576) : Ok cx 23 [.one (.row elHost ys)] [] [] [.one (.val (.bool (hostsOk hs)))] [] [] := by
  subst e; exact ok_hostsOk _ hl hn
theorem ok_specHostsOk' {ys hs : List HostV} (e : ys = hs) (hl : hs.length ≤ 1048576) (hn : ∀ h ∈ hs, h.name.size ≤ 1048576) : Ok cx 20 [.one (.row elHost ys)] [] [] [.one (.val (.bool (hostsOk hs)))] [] [] := by
  subst e; exact ok_specHostsOk _ hl hn
theorem ok_eqHostS' {ys zs hs : List HostV} (e : ys = hs) (e' : zs = hs) (hl : hs.length ≤ 1048576) : Ok cx 10 [.one (.row elHost ys), .one (.row elHost zs)] [] [] [.one (.val (.bool true))] [] [] := by
  subst e; subst e'; exact ok_eqHostS _ hl
end Go.Proofs.Ytjmhffbenbiieaa.Ev
