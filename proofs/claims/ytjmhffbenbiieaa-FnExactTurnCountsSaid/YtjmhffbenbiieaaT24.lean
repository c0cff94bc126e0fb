import Derived.Test.YtjmhffbenbiieaaT23
set_option linter.unusedVariables false
set_option linter.unusedSimpArgs false
namespace Go.Proofs.Ytjmhffbenbiieaa.Ev
open Go.RowKit

def ptGo (hs : List HostV) : Nat → List Int → List Int → List Int
  | 0, _, out => out
  | n + 1, now, out => cond (decide ((ntOf hs now).2 < 0)) [] (ptGo hs n (ntOf hs now).1 (out ++ [(ntOf hs now).2]))
def ptOf (hs : List HostV) (n : Int) : List Int := cond (hostsOk hs && inB n 0 300) (ptGo hs n.toNat (List.replicate hs.length 0) []) []
set_option maxRecDepth 20000 in
set_option maxHeartbeats 400000 in
theorem ok_play (hs : List HostV) (n : Int) (hl : hs.length ≤ 1048576) (hn : ∀ h ∈ hs, h.name.size ≤ 1048576) : Ok cx 22 [.one (.row elHost hs), vi n] [] [] [.one (.row elInt (ptOf hs n))] [] [] := by
  generalize hq : ptOf hs n = q
  refine Ok_of_vc (C := cx) cx_ok cx_mix (fn := Try.f22) rfl (by kernel_rfl) rfl (Nat.le_of_ble_eq_true (by kernel_rfl)) ?_
  conv => whnf
  refine CallG.at (ok_hostsOk hs hl hn) ?_
  conv => whnf
  refine Two.mk (fun h1 => ?_) (fun h1 => ?_) <;> conv => whnf
  · have e : ptOf hs n = [] := by rw [Bool.not_eq_true'] at h1; simp only [ptOf, h1, Bool.false_and, cond_false]
    rw [e] at hq; subst hq
    repeat' (refine Two.yes rfl ?_; conv => whnf)
    refine FinG.weak { sl := [(4, .pv (.one (.ref 3 0)))], rw := [(3, ⟨true, elInt, []⟩)], ob := [], nx := 4, po := [], pr := [] } ?_ ?_
    · repeat' (first | exact True.intro | exact rfl | (refine FinG.done ?_; conv => whnf) | (refine And.intro ?_ ?_) | exact Nat.le_of_ble_eq_true rfl | (refine Two.no rfl ?_; conv => whnf) | (refine Two.yes rfl ?_; conv => whnf))
    · conv => whnf
      repeat' (first | exact True.intro | exact rfl | (refine FinG.done ?_; conv => whnf) | (refine And.intro ?_ ?_) | exact Nat.le_of_ble_eq_true rfl | (refine Two.no rfl ?_; conv => whnf) | (refine Two.yes rfl ?_; conv => whnf))
  · have g1 : hostsOk hs = true := by rwa [Bool.not_eq_false'] at h1
    refine CallG.at (ok_in _ _ _) ?_
    conv => whnf
    refine Two.mk (fun h2 => ?_) (fun h2 => ?_) <;> conv => whnf
    · have h2' : inB n 0 300 = false := by rw [← Bool.not_eq_true']; exact h2
      have e : ptOf hs n = [] := by simp only [ptOf, h2', Bool.and_false, cond_false]
      rw [e] at hq; subst hq
      repeat' (refine Two.yes rfl ?_; conv => whnf)
      refine FinG.weak { sl := [(4, .pv (.one (.ref 3 0)))], rw := [(3, ⟨true, elInt, []⟩)], ob := [], nx := 4, po := [], pr := [] } ?_ ?_
      · repeat' (first | exact True.intro | exact rfl | (refine FinG.done ?_; conv => whnf) | (refine And.intro ?_ ?_) | exact Nat.le_of_ble_eq_true rfl | (refine Two.no rfl ?_; conv => whnf) | (refine Two.yes rfl ?_; conv => whnf))
      · conv => whnf
        repeat' (first | exact True.intro | exact rfl | (refine FinG.done ?_; conv => whnf) | (refine And.intro ?_ ?_) | exact Nat.le_of_ble_eq_true rfl | (refine Two.no rfl ?_; conv => whnf) | (refine Two.yes rfl ?_; conv => whnf))
    · have h2' : inB n 0 300 = true := by rw [← Bool.not_eq_false']; exact h2
      have hn0 : 0 ≤ n ∧ n ≤ 300 := by
        simp only [inB, Bool.and_eq_true, decide_eq_true_eq] at h2'; omega
      have e : ptOf hs n = ptGo hs n.toNat (List.replicate hs.length 0) [] := by simp only [ptOf, g1, h2', Bool.and_self, cond_true]
      refine ⟨rfl, ⟨Int.natCast_nonneg _, ?_⟩, ?_⟩
      · show ((hs.length : Nat) : Int).toNat * 8 ≤ 281474976710656
        omega
      conv => whnf
      refine ⟨Nat × List Int × List Int, fun x => x.1 ≤ n.toNat ∧ x.2.1.length = hs.length ∧ x.2.2.length = x.1 ∧ ptGo hs (n.toNat - x.1) x.2.1 x.2.2 = q, fun x => n.toNat - x.1,
        fun x => { sl := [(0, .pv (.one (.ref 0 hs.length))), (5, .pv (.one (.ref 1 hs.length))), (6, .pv (.one (.ref 2 x.2.2.length))), (20, sI n), (21, sI x.1)], rw := [(0, ⟨false, elHost, hs⟩), (1, ⟨true, elInt, x.2.1⟩), (2, ⟨true, elInt, x.2.2⟩)], ob := [], nx := 3, po := [], pr := [] },
        (0, List.replicate hs.length 0, []), ⟨Nat.zero_le _, List.length_replicate, rfl, by rw [← hq, e]; rfl⟩, ?_, fun x hx => ?_⟩
      · repeat' (first | exact True.intro | exact rfl | (refine FinG.done ?_; conv => whnf) | (refine And.intro ?_ ?_) | exact Nat.le_of_ble_eq_true rfl | (refine Two.no rfl ?_; conv => whnf) | (refine Two.yes rfl ?_; conv => whnf))
      · obtain ⟨i, now, out⟩ := x
        obtain ⟨hi, hnl, hol, hx⟩ := hx
        dsimp only at hi hnl hol hx
        conv => whnf
        refine Two.mk (fun h3 => ?_) (fun h3 => ?_) <;> conv => whnf
        · have hlt : (i : Int) < n := of_decide_eq_true h3
          have hnx : n.toNat - i = (n.toNat - (i + 1)) + 1 := by omega
          rw [hnx, ptGo] at hx
          have ht : List.take hs.length now = now := List.take_of_length_le (Nat.le_of_eq hnl)
          refine CallG.at (ok_next hs now hl hn (by omega)) ?_ (by simp [ht]; done) rfl rfl
          conv => whnf
          refine Two.mk (fun h4 => ?_) (fun h4 => ?_) <;> conv => whnf
          · have h4' : decide ((ntOf hs now).2 < 0) = true := h4
            rw [h4', cond_true] at hx
            subst hx
            repeat' (refine Two.yes rfl ?_; conv => whnf)
            refine FinG.weak { sl := [(4, .pv (.one (.ref 3 0)))], rw := [(3, ⟨true, elInt, []⟩)], ob := [], nx := 4, po := [], pr := [] } ?_ ?_
            · repeat' (first | exact True.intro | exact rfl | (refine FinG.done ?_; conv => whnf) | (refine And.intro ?_ ?_) | exact Nat.le_of_ble_eq_true rfl | (refine Two.no rfl ?_; conv => whnf) | (refine Two.yes rfl ?_; conv => whnf))
            · conv => whnf
              repeat' (first | exact True.intro | exact rfl | (refine FinG.done ?_; conv => whnf) | (refine And.intro ?_ ?_) | exact Nat.le_of_ble_eq_true rfl | (refine Two.no rfl ?_; conv => whnf) | (refine Two.yes rfl ?_; conv => whnf))
          · have h4' : decide ((ntOf hs now).2 < 0) = false := h4
            rw [h4', cond_false] at hx
            refine AppG.of [(ntOf hs now).2] (convRow_self (e := elInt) dec_int [(ntOf hs now).2]) ?_ ?_
            · show (out.length + 1) * 8 ≤ 140737488355328
              omega
            conv => whnf
            refine ⟨(i + 1, (ntOf hs now).1, out ++ [(ntOf hs now).2]), ⟨⟨by show i + 1 ≤ n.toNat; omega, by show (ntOf hs now).1.length = hs.length; rw [ntOf_len, hnl], by show (out ++ [(ntOf hs now).2]).length = i + 1; simp [hol], hx⟩, show n.toNat - (i + 1) < n.toNat - i by omega⟩, ?_⟩
            repeat' (first | exact True.intro | exact rfl | (refine FinG.done ?_; conv => whnf) | (refine And.intro ?_ ?_) | exact Nat.le_of_ble_eq_true rfl | (refine Two.no rfl ?_; conv => whnf) | (refine Two.yes rfl ?_; conv => whnf))
            · show hs.length = (ntOf hs now).1.length
              rw [ntOf_len, hnl]
            · show (out ++ [(ntOf hs now).2]).length = out.length + 1
              simp
            · conv => whnf
              exact (congrArg (Value.int IntKind.i64) (wk (by omega))).symm
            · conv => whnf
              exact row_eq (by rw [List.take_length])
        · have hge : ¬ (i : Int) < n := of_decide_eq_false h3
          have hi' : n.toNat - i = 0 := by omega
          rw [hi', ptGo] at hx
          subst hx
          repeat' (first | exact True.intro | exact rfl | (refine FinG.done ?_; conv => whnf) | (refine And.intro ?_ ?_) | exact Nat.le_of_ble_eq_true rfl | (refine Two.no rfl ?_; conv => whnf) | (refine Two.yes rfl ?_; conv => whnf) | (refine Two.no (bne_self_eq_false _) ?_; conv => whnf) | (refine Two.mk (fun h => ?_) (fun h => ?_) <;> conv => whnf))
          all_goals exact row_take rfl
end Go.Proofs.Ytjmhffbenbiieaa.Ev
