import Derived.Test.YthkdbflhneabbaaT22
set_option linter.unusedVariables false
set_option linter.unusedSimpArgs false
namespace Go.Proofs.Ythkdbflhneabbaa.Ev
open Go.RowKit

theorem ntTo_len (hs : List HostV) (now : List Int) : ∀ n, (ntTo hs now n).1.length = now.length
  | 0 => rfl
  | n + 1 => by
    rw [ntTo_succ, ntStep]
    cases (hs.getD n hz).down with
    | true => exact ntTo_len hs now n
    | false => rw [cond_false, ntSet, List.length_set]; exact ntTo_len hs now n
theorem ntOf_len (hs : List HostV) (now : List Int) : (ntOf hs now).1.length = now.length := by
  unfold ntOf
  cases ntOk hs now with
  | false => rfl
  | true =>
    rw [cond_true, ntEnd]
    cases decide ((ntTo hs now hs.length).2.2 ≥ 0) with
    | false => exact ntTo_len hs now _
    | true => rw [cond_true, List.length_set]; exact ntTo_len hs now _
set_option maxRecDepth 10000 in
theorem ok_fnNext (hs : List HostV) (now : List Int) (hl : hs.length ≤ 9223372036854775807) (hn : ∀ h ∈ hs, h.name.size ≤ 9223372036854775807) (hm : now.length ≤ 9223372036854775807) : Ok cx 11 [.one (.row elHostL hs), .one (.row elInt now)] [] [] [.one (.val (.bool true))] [] [] := by
  refine Ok_of_vc (C := cx) cx_ok cx_mix (fn := Try.f11) rfl (by kernel_rfl) rfl (Nat.le_of_ble_eq_true (by kernel_rfl)) ?_
  conv => whnf
  refine Two.mk (fun h0 => ?_) (fun h0 => ?_) <;> conv => whnf
  · repeat' (first | exact True.intro | exact rfl | (refine FinG.done ?_; conv => whnf) | (refine And.intro ?_ ?_) | exact Nat.le_of_ble_eq_true rfl | (refine Two.no rfl ?_; conv => whnf) | (refine Two.yes rfl ?_; conv => whnf))
  · have hm1 : now.length ≤ 1048576 := by have := of_decide_eq_false h0; omega
    refine CallG.at (ok_szHostS hs 1048576 (by decide) (by decide) hl hn) ?_
    conv => whnf
    refine Two.mk (fun h => ?_) (fun h => ?_) <;> conv => whnf
    · repeat' (first | exact True.intro | exact rfl | (refine FinG.done ?_; conv => whnf) | (refine And.intro ?_ ?_) | exact Nat.le_of_ble_eq_true rfl | (refine Two.no rfl ?_; conv => whnf) | (refine Two.yes rfl ?_; conv => whnf))
    · obtain ⟨h1, h2⟩ := szS_spec (hs := hs) (of_decide_eq_false h)
      have hq : (ntOf hs now).1.length ≤ 1048576 := by rw [ntOf_len]; exact hm1
      have cs := ok_specNext hs now h1 h2 hm1
      have ci := ok_next hs now h1 h2 hm1
      generalize (ntOf hs now).1 = q at cs ci hq
      generalize (ntOf hs now).2 = b at cs ci
      repeat' (first | exact True.intro | exact rfl | (refine FinG.done ?_; conv => whnf) | (refine And.intro ?_ ?_) | exact Nat.le_of_ble_eq_true rfl | (refine Two.no rfl ?_; conv => whnf) | (refine Two.yes rfl ?_; conv => whnf) | (refine Two.no (bne_self_eq_false _) ?_; conv => whnf) | (refine CallG.at (ok_toHostS hs h1) ?_ ?_ ?_ ?_; rotate_left; (focus (first | with_reducible rfl | (simp; done) | rfl)); (focus (first | with_reducible rfl | (simp; done) | rfl)); (focus (first | with_reducible rfl | (simp; done) | rfl)); conv => whnf) | (refine CallQ.at (ok_toHostS hs h1) ?_ ?_ ?_; rotate_left; (focus (first | with_reducible rfl | (simp; done) | rfl)); (focus (first | with_reducible rfl | (simp; done) | rfl)); conv => whnf) | (refine CallG.at (ok_toIntS now hm1) ?_ ?_ ?_ ?_; rotate_left; (focus (first | with_reducible rfl | (simp; done) | rfl)); (focus (first | with_reducible rfl | (simp; done) | rfl)); (focus (first | with_reducible rfl | (simp; done) | rfl)); conv => whnf) | (refine CallQ.at (ok_toIntS now hm1) ?_ ?_ ?_; rotate_left; (focus (first | with_reducible rfl | (simp; done) | rfl)); (focus (first | with_reducible rfl | (simp; done) | rfl)); conv => whnf) | (refine CallG.at (cs) ?_ ?_ ?_ ?_; rotate_left; (focus (first | with_reducible rfl | (simp; done) | rfl)); (focus (first | with_reducible rfl | (simp; done) | rfl)); (focus (first | with_reducible rfl | (simp; done) | rfl)); conv => whnf) | (refine CallQ.at (cs) ?_ ?_ ?_; rotate_left; (focus (first | with_reducible rfl | (simp; done) | rfl)); (focus (first | with_reducible rfl | (simp; done) | rfl)); conv => whnf) | (refine CallG.at (ci) ?_ ?_ ?_ ?_; rotate_left; (focus (first | with_reducible rfl | (simp; done) | rfl)); (focus (first | with_reducible rfl | (simp; done) | rfl)); (focus (first | with_reducible rfl | (simp; done) | rfl)); conv => whnf) | (refine CallQ.at (ci) ?_ ?_ ?_; rotate_left; (focus (first | with_reducible rfl | (simp; done) | rfl)); (focus (first | with_reducible rfl | (simp; done) | rfl)); conv => whnf) | (refine CallG.at (ok_eqIntS q hq) ?_ ?_ ?_ ?_; rotate_left; (focus (first | with_reducible rfl | (simp; done) | rfl)); (focus (first | with_reducible rfl | (simp; done) | rfl)); (focus (first | with_reducible rfl | (simp; done) | rfl)); conv => whnf) | (refine CallQ.at (ok_eqIntS q hq) ?_ ?_ ?_; rotate_left; (focus (first | with_reducible rfl | (simp; done) | rfl)); (focus (first | with_reducible rfl | (simp; done) | rfl)); conv => whnf) | (refine CallG.at (ok_eqIntS now hm1) ?_ ?_ ?_ ?_; rotate_left; (focus (first | with_reducible rfl | (simp; done) | rfl)); (focus (first | with_reducible rfl | (simp; done) | rfl)); (focus (first | with_reducible rfl | (simp; done) | rfl)); conv => whnf) | (refine CallQ.at (ok_eqIntS now hm1) ?_ ?_ ?_; rotate_left; (focus (first | with_reducible rfl | (simp; done) | rfl)); (focus (first | with_reducible rfl | (simp; done) | rfl)); conv => whnf) | (refine CallG.at (ok_eqHostS hs h1) ?_ ?_ ?_ ?_; rotate_left; (focus (first | with_reducible rfl | (simp; done) | rfl)); (focus (first | with_reducible rfl | (simp; done) | rfl)); (focus (first | with_reducible rfl | (simp; done) | rfl)); conv => whnf) | (refine CallQ.at (ok_eqHostS hs h1) ?_ ?_ ?_; rotate_left; (focus (first | with_reducible rfl | (simp; done) | rfl)); (focus (first | with_reducible rfl | (simp; done) | rfl)); conv => whnf) | (refine CallG.at (ok_markHostS hs 1 h1 (by decide)) ?_ ?_ ?_ ?_; rotate_left; (focus (first | with_reducible rfl | (simp; done) | rfl)); (focus (first | with_reducible rfl | (simp; done) | rfl)); (focus (first | with_reducible rfl | (simp; done) | rfl)); conv => whnf) | (refine CallQ.at (ok_markHostS hs 1 h1 (by decide)) ?_ ?_ ?_; rotate_left; (focus (first | with_reducible rfl | (simp; done) | rfl)); (focus (first | with_reducible rfl | (simp; done) | rfl)); conv => whnf) | (refine CallG.at (ok_markIntS now (1 + 5 * hs.length) hm1 (by omega)) ?_ ?_ ?_ ?_; rotate_left; (focus (first | with_reducible rfl | (simp; done) | rfl)); (focus (first | with_reducible rfl | (simp; done) | rfl)); (focus (first | with_reducible rfl | (simp; done) | rfl)); conv => whnf) | (refine CallQ.at (ok_markIntS now (1 + 5 * hs.length) hm1 (by omega)) ?_ ?_ ?_; rotate_left; (focus (first | with_reducible rfl | (simp; done) | rfl)); (focus (first | with_reducible rfl | (simp; done) | rfl)); conv => whnf) | (refine CallG.at (ok_markIntS q 1 hq (by decide)) ?_ ?_ ?_ ?_; rotate_left; (focus (first | with_reducible rfl | (simp; done) | rfl)); (focus (first | with_reducible rfl | (simp; done) | rfl)); (focus (first | with_reducible rfl | (simp; done) | rfl)); conv => whnf) | (refine CallQ.at (ok_markIntS q 1 hq (by decide)) ?_ ?_ ?_; rotate_left; (focus (first | with_reducible rfl | (simp; done) | rfl)); (focus (first | with_reducible rfl | (simp; done) | rfl)); conv => whnf) | (refine CallG.at (ok_heldIntS q.length 1 hq (by decide) (mksI q.length 1) rfl) ?_ ?_ ?_ ?_; rotate_left; (focus (first | with_reducible rfl | (simp; done) | rfl)); (focus (first | with_reducible rfl | (simp; done) | rfl)); (focus (first | with_reducible rfl | (simp; done) | rfl)); conv => whnf) | (refine CallQ.at (ok_heldIntS q.length 1 hq (by decide) (mksI q.length 1) rfl) ?_ ?_ ?_; rotate_left; (focus (first | with_reducible rfl | (simp; done) | rfl)); (focus (first | with_reducible rfl | (simp; done) | rfl)); conv => whnf) | ((refine Two.no (decide_eq_false (by omega)) ?_; conv => whnf)) | (refine Two.mk (fun h => ?_) (fun h => ?_) <;> conv => whnf))
end Go.Proofs.Ythkdbflhneabbaa.Ev
