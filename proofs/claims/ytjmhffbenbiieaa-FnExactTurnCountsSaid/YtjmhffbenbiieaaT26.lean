import Derived.Test.YtjmhffbenbiieaaT25
set_option linter.unusedVariables false
set_option linter.unusedSimpArgs false
namespace Go.Proofs.Ytjmhffbenbiieaa.Ev
open Go.RowKit

theorem ntTo_best (hs : List HostV) (now : List Int) : ∀ n, n ≤ hs.length → -1 ≤ (ntTo hs now n).2.2 ∧ (ntTo hs now n).2.2 < hs.length
  | 0, h => by
    have e : (ntTo hs now 0).2.2 = -1 := rfl
    rw [e]; omega
  | n + 1, h => by
    have ih := ntTo_best hs now n (by omega)
    rw [ntTo_succ, ntStep]
    cases (hs.getD n hz).down with
    | true => exact ih
    | false =>
      rw [cond_false]
      cases decide ((ntTo hs now n).2.2 < 0) with
      | true => rw [cond_true]; show -1 ≤ (n : Int) ∧ (n : Int) < hs.length; omega
      | false =>
        rw [cond_false]
        cases decide ((ntSet hs (ntTo hs now n).1 n).getD n 0 > (ntSet hs (ntTo hs now n).1 n).getD (ntTo hs now n).2.2.toNat 0) with
        | true => rw [cond_true]; show -1 ≤ (n : Int) ∧ (n : Int) < hs.length; omega
        | false => exact ih
theorem ntOf_best (hs : List HostV) (now : List Int) : -1 ≤ (ntOf hs now).2 ∧ (ntOf hs now).2 < hs.length := by
  unfold ntOf
  cases ntOk hs now with
  | false => rw [cond_false]; omega
  | true =>
    have := ntTo_best hs now hs.length (Nat.le_refl _)
    rw [cond_true, ntEnd]
    cases decide ((ntTo hs now hs.length).2.2 ≥ 0) <;> exact this
theorem ptGo_in (hs : List HostV) : ∀ (n : Nat) (now out : List Int), (∀ j ∈ out, 0 ≤ j ∧ j < (hs.length : Int)) → ∀ j ∈ ptGo hs n now out, 0 ≤ j ∧ j < (hs.length : Int)
  | 0, now, out, h => h
  | n + 1, now, out, h => by
    rw [ptGo]
    cases hb : decide ((ntOf hs now).2 < 0) with
    | true => intro j hj; cases hj
    | false =>
      rw [cond_false]
      refine ptGo_in hs n _ _ fun j hj => ?_
      rcases List.mem_append.1 hj with h1 | h1
      · exact h j h1
      · rw [List.mem_singleton] at h1
        have := ntOf_best hs now
        have := of_decide_eq_false hb
        omega
theorem ptOf_in (hs : List HostV) (n : Int) : ∀ j ∈ ptOf hs n, 0 ≤ j ∧ j < (hs.length : Int) := by
  unfold ptOf
  cases hostsOk hs && inB n 0 300 with
  | false => intro j hj; cases hj
  | true => exact ptGo_in hs _ _ _ (by intro j hj; cases hj)
def tcStep (c : List Int) (j : Int) : List Int := c.set j.toNat (IntKind.i64.wrap (c.getD j.toNat 0 + 1))
def tcTo (k : Nat) (out : List Int) (i : Nat) : List Int := (out.take i).foldl tcStep (List.replicate k 0)
theorem tcTo_succ {k : Nat} {out : List Int} {i : Nat} (h : i < out.length) : tcTo k out (i + 1) = tcStep (tcTo k out i) (out.getD i 0) := by
  rw [tcTo, List.take_add_one, getD_get out i 0 h]
  simp [tcTo, List.foldl_append]
theorem tc_fold_len : ∀ (l : List Int) (c : List Int), (l.foldl tcStep c).length = c.length
  | [], c => rfl
  | j :: r, c => by rw [List.foldl_cons, tc_fold_len r, tcStep, List.length_set]
theorem tcTo_len (k : Nat) (out : List Int) (i : Nat) : (tcTo k out i).length = k := by
  rw [tcTo, tc_fold_len, List.length_replicate]
def tcOf (hs : List HostV) (n : Int) : List Int := cond (hostsOk hs && !(((ptOf hs n).length : Int) != n)) (tcTo hs.length (ptOf hs n) (ptOf hs n).length) []
theorem tcOf_len (hs : List HostV) (n : Int) (hl : hs.length ≤ 1048576) : (tcOf hs n).length ≤ 1048576 := by
  rw [tcOf]
  cases hostsOk hs && !(((ptOf hs n).length : Int) != n) with
  | false => simp
  | true => rw [cond_true, tcTo_len]; exact hl
set_option maxRecDepth 20000 in
set_option maxHeartbeats 400000 in
theorem ok_counts (hs : List HostV) (n : Int) (hl : hs.length ≤ 1048576) (hn : ∀ h ∈ hs, h.name.size ≤ 1048576) : Ok cx 8 [.one (.row elHost hs), vi n] [] [] [.one (.row elInt (tcOf hs n))] [] [] := by
  generalize hq : tcOf hs n = q
  have ci := ok_play hs n hl hn
  have hin := ptOf_in hs n
  have hol := ptOf_len hs n
  have hdef : tcOf hs n = cond (hostsOk hs && !(((ptOf hs n).length : Int) != n)) (tcTo hs.length (ptOf hs n) (ptOf hs n).length) [] := rfl
  generalize ptOf hs n = out at ci hin hol hdef
  refine Ok_of_vc (C := cx) cx_ok cx_mix (fn := Try.f8) rfl (by kernel_rfl) rfl (Nat.le_of_ble_eq_true (by kernel_rfl)) ?_
  conv => whnf
  refine CallG.at ci ?_
  conv => whnf
  refine CallG.at (ok_hostsOk hs hl hn) ?_
  conv => whnf
  refine Two.mk (fun h1 => ?_) (fun h1 => ?_) <;> conv => whnf
  · have e : q = [] := by rw [Bool.not_eq_true'] at h1; rw [← hq, hdef, h1, Bool.false_and, cond_false]
    subst e
    repeat' (refine Two.yes rfl ?_; conv => whnf)
    refine FinG.weak { sl := [(4, .pv (.one (.ref 3 0)))], rw := [(3, ⟨true, elInt, []⟩)], ob := [], nx := 4, po := [], pr := [] } ?_ ?_
    · repeat' (first | exact True.intro | exact rfl | (refine FinG.done ?_; conv => whnf) | (refine And.intro ?_ ?_) | exact Nat.le_of_ble_eq_true rfl | (refine Two.no rfl ?_; conv => whnf) | (refine Two.yes rfl ?_; conv => whnf))
    · conv => whnf
      repeat' (first | exact True.intro | exact rfl | (refine FinG.done ?_; conv => whnf) | (refine And.intro ?_ ?_) | exact Nat.le_of_ble_eq_true rfl | (refine Two.no rfl ?_; conv => whnf) | (refine Two.yes rfl ?_; conv => whnf))
  · have g1 : hostsOk hs = true := by rwa [Bool.not_eq_false'] at h1
    refine Two.mk (fun h2 => ?_) (fun h2 => ?_) <;> conv => whnf
    · have h2' : ((out.length : Int) != n) = true := h2
      have e : q = [] := by rw [← hq, hdef, h2', Bool.not_true, Bool.and_false, cond_false]
      subst e
      repeat' (refine Two.yes rfl ?_; conv => whnf)
      refine FinG.weak { sl := [(4, .pv (.one (.ref 3 0)))], rw := [(3, ⟨true, elInt, []⟩)], ob := [], nx := 4, po := [], pr := [] } ?_ ?_
      · repeat' (first | exact True.intro | exact rfl | (refine FinG.done ?_; conv => whnf) | (refine And.intro ?_ ?_) | exact Nat.le_of_ble_eq_true rfl | (refine Two.no rfl ?_; conv => whnf) | (refine Two.yes rfl ?_; conv => whnf))
      · conv => whnf
        repeat' (first | exact True.intro | exact rfl | (refine FinG.done ?_; conv => whnf) | (refine And.intro ?_ ?_) | exact Nat.le_of_ble_eq_true rfl | (refine Two.no rfl ?_; conv => whnf) | (refine Two.yes rfl ?_; conv => whnf))
    · have h2' : ((out.length : Int) != n) = false := h2
      have e : q = tcTo hs.length out out.length := by rw [← hq, hdef, h2', g1]; rfl
      refine ⟨rfl, ⟨Int.natCast_nonneg _, ?_⟩, ?_⟩
      · show ((hs.length : Nat) : Int).toNat * 8 ≤ 281474976710656
        omega
      conv => whnf
      refine ⟨Nat, fun i => i ≤ out.length, fun i => out.length - i,
        fun i => { sl := [(6, .pv (.one (.ref 2 hs.length))), (24, .pv (.one (.ref 1 out.length))), (25, sI out.length), (26, sI i)], rw := [(1, ⟨true, elInt, out⟩), (2, ⟨true, elInt, tcTo hs.length out i⟩)], ob := [], nx := 3, po := [], pr := [] },
        0, Nat.zero_le _, ?_, fun i hi => ?_⟩
      · repeat' (first | exact True.intro | exact rfl | (refine FinG.done ?_; conv => whnf) | (refine And.intro ?_ ?_) | exact Nat.le_of_ble_eq_true rfl | (refine Two.no rfl ?_; conv => whnf) | (refine Two.yes rfl ?_; conv => whnf))
      · conv => whnf
        refine Two.mk (fun h3 => ?_) (fun h3 => ?_) <;> conv => whnf
        · have hlt : i < out.length := by simpa using h3
          have hmem : out.getD i 0 ∈ out := by
            rw [List.getD_eq_getElem?_getD, List.getElem?_eq_getElem hlt]; exact List.getElem_mem hlt
          have hj := hin _ hmem
          refine Bnd.mk (Int.natCast_nonneg _) (by simpa using hlt) ?_
          conv => whnf
          refine Bnd.mk hj.1 hj.2 ?_
          conv => whnf
          refine Bnd.mk hj.1 hj.2 ?_
          conv => whnf
          refine ⟨i + 1, ⟨hlt, show out.length - (i + 1) < out.length - i by omega⟩, ?_⟩
          repeat' (first | exact True.intro | exact rfl | (refine FinG.done ?_; conv => whnf) | (refine And.intro ?_ ?_) | exact Nat.le_of_ble_eq_true rfl | (refine Two.no rfl ?_; conv => whnf) | (refine Two.yes rfl ?_; conv => whnf))
          · conv => whnf
            exact (congrArg (Value.int IntKind.i64) (wk (by omega))).symm
          · conv => whnf
            exact row_eq (tcTo_succ hlt)
        · have hge : ¬ i < out.length := by simpa using h3
          have hi' : i = out.length := by have : i ≤ out.length := hi; omega
          subst hi'
          subst e
          repeat' (first | exact True.intro | exact rfl | (refine FinG.done ?_; conv => whnf) | (refine And.intro ?_ ?_) | exact Nat.le_of_ble_eq_true rfl | (refine Two.no rfl ?_; conv => whnf) | (refine Two.yes rfl ?_; conv => whnf))
          all_goals (conv => rhs; whnf)
          exact row_takeN rfl (Nat.le_of_eq (tcTo_len _ _ _))
set_option maxRecDepth 20000 in
set_option maxHeartbeats 400000 in
theorem ok_specCounts (hs : List HostV) (n : Int) (hl : hs.length ≤ 1048576) (hn : ∀ h ∈ hs, h.name.size ≤ 1048576) : Ok cx 6 [.one (.row elHost hs), vi n] [] [] [.one (.row elInt (tcOf hs n))] [] [] := by
  generalize hq : tcOf hs n = q
  have ci := ok_specPlay hs n hl hn
  have hin := ptOf_in hs n
  have hol := ptOf_len hs n
  have hdef : tcOf hs n = cond (hostsOk hs && !(((ptOf hs n).length : Int) != n)) (tcTo hs.length (ptOf hs n) (ptOf hs n).length) [] := rfl
  generalize ptOf hs n = out at ci hin hol hdef
  refine Ok_of_vc (C := cx) cx_ok cx_mix (fn := Try.f6) rfl (by kernel_rfl) rfl (Nat.le_of_ble_eq_true (by kernel_rfl)) ?_
  conv => whnf
  refine CallG.at ci ?_
  conv => whnf
  refine CallG.at (ok_specHostsOk hs hl hn) ?_
  conv => whnf
  refine Two.mk (fun h1 => ?_) (fun h1 => ?_) <;> conv => whnf
  · have e : q = [] := by rw [Bool.not_eq_true'] at h1; rw [← hq, hdef, h1, Bool.false_and, cond_false]
    subst e
    repeat' (refine Two.yes rfl ?_; conv => whnf)
    refine FinG.weak { sl := [(4, .pv (.one (.ref 3 0)))], rw := [(3, ⟨true, elInt, []⟩)], ob := [], nx := 4, po := [], pr := [] } ?_ ?_
    · repeat' (first | exact True.intro | exact rfl | (refine FinG.done ?_; conv => whnf) | (refine And.intro ?_ ?_) | exact Nat.le_of_ble_eq_true rfl | (refine Two.no rfl ?_; conv => whnf) | (refine Two.yes rfl ?_; conv => whnf))
    · conv => whnf
      repeat' (first | exact True.intro | exact rfl | (refine FinG.done ?_; conv => whnf) | (refine And.intro ?_ ?_) | exact Nat.le_of_ble_eq_true rfl | (refine Two.no rfl ?_; conv => whnf) | (refine Two.yes rfl ?_; conv => whnf))
  · have g1 : hostsOk hs = true := by rwa [Bool.not_eq_false'] at h1
    refine Two.mk (fun h2 => ?_) (fun h2 => ?_) <;> conv => whnf
    · have h2' : ((out.length : Int) != n) = true := h2
      have e : q = [] := by rw [← hq, hdef, h2', Bool.not_true, Bool.and_false, cond_false]
      subst e
      repeat' (refine Two.yes rfl ?_; conv => whnf)
      refine FinG.weak { sl := [(4, .pv (.one (.ref 3 0)))], rw := [(3, ⟨true, elInt, []⟩)], ob := [], nx := 4, po := [], pr := [] } ?_ ?_
      · repeat' (first | exact True.intro | exact rfl | (refine FinG.done ?_; conv => whnf) | (refine And.intro ?_ ?_) | exact Nat.le_of_ble_eq_true rfl | (refine Two.no rfl ?_; conv => whnf) | (refine Two.yes rfl ?_; conv => whnf))
      · conv => whnf
        repeat' (first | exact True.intro | exact rfl | (refine FinG.done ?_; conv => whnf) | (refine And.intro ?_ ?_) | exact Nat.le_of_ble_eq_true rfl | (refine Two.no rfl ?_; conv => whnf) | (refine Two.yes rfl ?_; conv => whnf))
    · have h2' : ((out.length : Int) != n) = false := h2
      have e : q = tcTo hs.length out out.length := by rw [← hq, hdef, h2', g1]; rfl
      refine ⟨rfl, ⟨Int.natCast_nonneg _, ?_⟩, ?_⟩
      · show ((hs.length : Nat) : Int).toNat * 8 ≤ 281474976710656
        omega
      conv => whnf
      refine ⟨Nat, fun i => i ≤ out.length, fun i => out.length - i,
        fun i => { sl := [(5, .pv (.one (.ref 1 out.length))), (6, .pv (.one (.ref 2 hs.length))), (7, sI i)], rw := [(1, ⟨true, elInt, out⟩), (2, ⟨true, elInt, tcTo hs.length out i⟩)], ob := [], nx := 3, po := [], pr := [] },
        0, Nat.zero_le _, ?_, fun i hi => ?_⟩
      · repeat' (first | exact True.intro | exact rfl | (refine FinG.done ?_; conv => whnf) | (refine And.intro ?_ ?_) | exact Nat.le_of_ble_eq_true rfl | (refine Two.no rfl ?_; conv => whnf) | (refine Two.yes rfl ?_; conv => whnf))
      · conv => whnf
        refine Two.mk (fun h3 => ?_) (fun h3 => ?_) <;> conv => whnf
        · have hlt : i < out.length := by simpa using h3
          have hmem : out.getD i 0 ∈ out := by
            rw [List.getD_eq_getElem?_getD, List.getElem?_eq_getElem hlt]; exact List.getElem_mem hlt
          have hj := hin _ hmem
          have hb0 : (0 : Int) ≤ (i : Int) := Int.natCast_nonneg _
          have hb1 : (i : Int) < (out.length : Int) := by omega
          refine DrawG.d (RegD.of [0, 1, 2, 3, 4, 5, 6, 7, 8, 9, 10, 11, 12, 13] [] [14] (by kernel_rfl) ?_)
          conv => whnf
          refine Bnd.mk hb0 hb1 ?_
          conv => whnf
          refine Bnd.mk hb0 hb1 ?_
          conv => whnf
          refine Bnd.mk hj.1 hj.2 ?_
          conv => whnf
          refine Bnd.mk hj.1 hj.2 ?_
          conv => whnf
          refine ⟨i + 1, ⟨hlt, show out.length - (i + 1) < out.length - i by omega⟩, ?_⟩
          repeat' (first | exact True.intro | exact rfl | (refine FinG.done ?_; conv => whnf) | (refine And.intro ?_ ?_) | exact Nat.le_of_ble_eq_true rfl | (refine Two.no rfl ?_; conv => whnf) | (refine Two.yes rfl ?_; conv => whnf))
          · conv => whnf
            exact (congrArg (Value.int IntKind.i64) (wk (by omega))).symm
          · conv => whnf
            exact row_eq (tcTo_succ hlt)
        · have hge : ¬ i < out.length := by simpa using h3
          have hi' : i = out.length := by have : i ≤ out.length := hi; omega
          subst hi'
          subst e
          repeat' (first | exact True.intro | exact rfl | (refine FinG.done ?_; conv => whnf) | (refine And.intro ?_ ?_) | exact Nat.le_of_ble_eq_true rfl | (refine Two.no rfl ?_; conv => whnf) | (refine Two.yes rfl ?_; conv => whnf))
          all_goals (conv => rhs; whnf)
          exact row_takeN rfl (Nat.le_of_eq (tcTo_len _ _ _))
end Go.Proofs.Ytjmhffbenbiieaa.Ev
