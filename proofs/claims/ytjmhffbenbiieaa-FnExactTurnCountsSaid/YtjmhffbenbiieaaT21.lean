import Derived.Test.YtjmhffbenbiieaaT20
set_option linter.unusedVariables false
set_option linter.unusedSimpArgs false
namespace Go.Proofs.Ytjmhffbenbiieaa.Ev
open Go.RowKit

def okTo (now : List Int) (n : Nat) : Bool := (List.range n).all fun j => inB (now.getD j 0) (-1000) 1000
theorem okTo_succ (now : List Int) (i : Nat) : okTo now (i + 1) = (okTo now i && inB (now.getD i 0) (-1000) 1000) := by
  simp [okTo, List.range_succ, List.all_append]
theorem okTo_bad {now : List Int} {i n : Nat} (hi : i < n) (hg : inB (now.getD i 0) (-1000) 1000 = false) : okTo now n = false := by
  cases hq : okTo now n with
  | false => rfl
  | true =>
    have := List.all_eq_true.1 hq i (List.mem_range.2 hi)
    rw [hg] at this; cases this
def ntSet (hs : List HostV) (c : List Int) (i : Nat) : List Int := c.set i (IntKind.i64.wrap (c.getD i 0 + (hs.getD i hz).weight))
def ntStep (hs : List HostV) (x : List Int × Int × Int) (i : Nat) : List Int × Int × Int :=
  cond (hs.getD i hz).down x (ntSet hs x.1 i, IntKind.i64.wrap (x.2.1 + (hs.getD i hz).weight),
    cond (decide (x.2.2 < 0)) (i : Int) (cond (decide ((ntSet hs x.1 i).getD i 0 > (ntSet hs x.1 i).getD x.2.2.toNat 0)) (i : Int) x.2.2))
def ntTo (hs : List HostV) (now : List Int) (n : Nat) : List Int × Int × Int := (List.range n).foldl (ntStep hs) (now, 0, -1)
theorem ntTo_succ (hs : List HostV) (now : List Int) (i : Nat) : ntTo hs now (i + 1) = ntStep hs (ntTo hs now i) i := by
  simp only [ntTo, List.range_succ, List.foldl_append, List.foldl_cons, List.foldl_nil]
def ntEnd (x : List Int × Int × Int) : List Int × Int := cond (decide (x.2.2 ≥ 0)) (x.1.set x.2.2.toNat (IntKind.i64.wrap (x.1.getD x.2.2.toNat 0 - x.2.1)), x.2.2) (x.1, x.2.2)
def ntOk (hs : List HostV) (now : List Int) : Bool := hostsOk hs && (!((now.length : Int) != hs.length) && okTo now now.length)
def ntOf (hs : List HostV) (now : List Int) : List Int × Int := cond (ntOk hs now) (ntEnd (ntTo hs now hs.length)) (now, -1)
set_option maxRecDepth 20000 in
set_option maxHeartbeats 400000 in
theorem ok_next (hs : List HostV) (now : List Int) (hl : hs.length ≤ 1048576) (hn : ∀ h ∈ hs, h.name.size ≤ 1048576) (hm : now.length ≤ 1048576) : Ok cx 41 [.one (.row elHost hs), .one (.row elInt now)] [] [] [.one (.row elInt (ntOf hs now).1), .one (.val (.int .i64 (ntOf hs now).2))] [] [] := by
  generalize hq : (ntOf hs now).1 = q
  generalize hb : (ntOf hs now).2 = b
  have bad : ntOk hs now = false → now = q ∧ -1 = b := fun h => by subst hq; subst hb; simp only [ntOf, h, cond_false, and_self]
  refine Ok_of_vc (C := cx) cx_ok cx_mix (fn := Try.f41) rfl (by kernel_rfl) rfl (Nat.le_of_ble_eq_true (by kernel_rfl)) ?_
  conv => whnf
  refine CallG.at (ok_icopy now hm) ?_
  conv => whnf
  refine CallG.at (ok_hostsOk hs hl hn) ?_
  conv => whnf
  refine Two.mk (fun h1 => ?_) (fun h1 => ?_) <;> conv => whnf
  · obtain ⟨e1, e2⟩ := bad (by rw [Bool.not_eq_true'] at h1; simp only [ntOk, h1, Bool.false_and])
    subst e1 e2
    repeat' (first | exact True.intro | exact rfl | (refine FinG.done ?_; conv => whnf) | (refine And.intro ?_ ?_) | exact Nat.le_of_ble_eq_true rfl | (refine Two.no rfl ?_; conv => whnf) | (refine Two.yes rfl ?_; conv => whnf) | (refine Two.no (bne_self_eq_false _) ?_; conv => whnf) | (refine Two.mk (fun h => ?_) (fun h => ?_) <;> conv => whnf))
    all_goals exact row_take rfl
  · have g1 : hostsOk hs = true := by rwa [Bool.not_eq_false'] at h1
    refine Two.mk (fun h2 => ?_) (fun h2 => ?_) <;> conv => whnf
    · have h2' : (((now.length : Nat) : Int) != ((hs.length : Nat) : Int)) = true := h2
      obtain ⟨e1, e2⟩ := bad (by simp only [ntOk, h2', Bool.not_true, Bool.false_and, Bool.and_false])
      subst e1 e2
      repeat' (first | exact True.intro | exact rfl | (refine FinG.done ?_; conv => whnf) | (refine And.intro ?_ ?_) | exact Nat.le_of_ble_eq_true rfl | (refine Two.no rfl ?_; conv => whnf) | (refine Two.yes rfl ?_; conv => whnf) | (refine Two.no (bne_self_eq_false _) ?_; conv => whnf) | (refine Two.mk (fun h => ?_) (fun h => ?_) <;> conv => whnf))
      all_goals exact row_take rfl
    · have h2' : (((now.length : Nat) : Int) != ((hs.length : Nat) : Int)) = false := h2
      have hlen : now.length = hs.length := by rw [bne_eq_false_iff_eq] at h2'; omega
      refine ⟨Nat, fun i => i ≤ now.length ∧ okTo now i = true, fun i => now.length - i,
        fun i => { sl := [(0, .pv (.one (.ref 0 hs.length))), (6, .pv (.one (.ref 2 now.length))), (26, .pv (.one (.ref 1 now.length))), (27, sI now.length), (28, sI i)], rw := [(0, ⟨false, elHost, hs⟩), (1, ⟨false, elInt, now⟩), (2, ⟨true, elInt, now⟩)], ob := [], nx := 3, po := [], pr := [] },
        0, ⟨Nat.zero_le _, rfl⟩, ?_, fun i hi => ?_⟩
      · repeat' (first | exact True.intro | exact rfl | (refine FinG.done ?_; conv => whnf) | (refine And.intro ?_ ?_) | exact Nat.le_of_ble_eq_true rfl | (refine Two.no rfl ?_; conv => whnf) | (refine Two.yes rfl ?_; conv => whnf))
      · obtain ⟨hi, ho⟩ := hi
        conv => whnf
        refine Two.mk (fun h3 => ?_) (fun h3 => ?_) <;> conv => whnf
        · have hlt : i < now.length := by simpa using h3
          refine Bnd.mk (Int.natCast_nonneg _) (by simpa using hlt) ?_
          conv => whnf
          refine CallG.at (ok_in _ _ _) ?_
          conv => whnf
          refine Two.mk (fun h4 => ?_) (fun h4 => ?_) <;> conv => whnf
          · have h4' : inB (now.getD i 0) (-1000) 1000 = false := by rw [Bool.not_eq_true'] at h4; exact h4
            obtain ⟨e1, e2⟩ := bad (by simp only [ntOk, okTo_bad hlt h4', Bool.and_false])
            subst e1 e2
            repeat' (first | exact True.intro | exact rfl | (refine FinG.done ?_; conv => whnf) | (refine And.intro ?_ ?_) | exact Nat.le_of_ble_eq_true rfl | (refine Two.no rfl ?_; conv => whnf) | (refine Two.yes rfl ?_; conv => whnf))
            all_goals exact row_take rfl
          · have h4' : inB (now.getD i 0) (-1000) 1000 = true := by rw [Bool.not_eq_false'] at h4; exact h4
            refine ⟨i + 1, ⟨⟨hlt, by rw [okTo_succ, ho, h4']; rfl⟩, show now.length - (i + 1) < now.length - i by omega⟩, ?_⟩
            repeat' (first | exact True.intro | exact rfl | (refine FinG.done ?_; conv => whnf) | (refine And.intro ?_ ?_) | exact Nat.le_of_ble_eq_true rfl | (refine Two.no rfl ?_; conv => whnf) | (refine Two.yes rfl ?_; conv => whnf))
            conv => whnf
            exact (congrArg (Value.int IntKind.i64) (wk (by omega))).symm
        · have hge : ¬ i < now.length := by simpa using h3
          have hi' : i = now.length := by omega
          subst hi'
          have hok : ntOk hs now = true := by simp only [ntOk, g1, h2', ho, Bool.not_false, Bool.and_self]
          have hne : ntOf hs now = ntEnd (ntTo hs now hs.length) := by simp only [ntOf, hok, cond_true]
          refine ⟨Nat × List Int × Int × Int, fun x => x.1 ≤ hs.length ∧ x.2 = ntTo hs now x.1 ∧ x.2.1.length = now.length ∧ x.2.2.2 < hs.length, fun x => hs.length - x.1,
            fun x => { sl := [(6, .pv (.one (.ref 2 now.length))), (9, sI x.2.2.2), (10, sI x.2.2.1), (37, .pv (.one (.ref 0 hs.length))), (38, sI hs.length), (39, sI x.1)], rw := [(0, ⟨false, elHost, hs⟩), (2, ⟨true, elInt, x.2.1⟩)], ob := [], nx := 3, po := [], pr := [] },
            (0, now, 0, -1), ⟨Nat.zero_le _, rfl, rfl, by show (-1 : Int) < hs.length; omega⟩, ?_, fun x hx => ?_⟩
          · repeat' (first | exact True.intro | exact rfl | (refine FinG.done ?_; conv => whnf) | (refine And.intro ?_ ?_) | exact Nat.le_of_ble_eq_true rfl | (refine Two.no rfl ?_; conv => whnf) | (refine Two.yes rfl ?_; conv => whnf))
          · obtain ⟨i, c, sum, best⟩ := x
            obtain ⟨hi, hx, hc, hbn⟩ := hx
            dsimp only at hi hx hc hbn
            conv => whnf
            refine Two.mk (fun h5 => ?_) (fun h5 => ?_) <;> conv => whnf
            · have hlt : i < hs.length := by simpa using h5
              have hs1 := ntTo_succ hs now i
              rw [← hx] at hs1
              refine Bnd.mk (Int.natCast_nonneg _) (by simpa using hlt) ?_
              conv => whnf
              refine Two.mk (fun h6 => ?_) (fun h6 => ?_) <;> conv => whnf
              · have h6' : (hs.getD i hz).down = true := h6
                rw [ntStep, h6', cond_true] at hs1
                refine ⟨(i + 1, c, sum, best), ⟨⟨hlt, hs1.symm, hc, hbn⟩, show hs.length - (i + 1) < hs.length - i by omega⟩, ?_⟩
                repeat' (first | exact True.intro | exact rfl | (refine FinG.done ?_; conv => whnf) | (refine And.intro ?_ ?_) | exact Nat.le_of_ble_eq_true rfl | (refine Two.no rfl ?_; conv => whnf) | (refine Two.yes rfl ?_; conv => whnf))
                conv => whnf
                exact (congrArg (Value.int IntKind.i64) (wk (by omega))).symm
              · have h6' : (hs.getD i hz).down = false := h6
                rw [ntStep, h6', cond_false] at hs1
                refine DrawG.d (RegD.of [0, 1, 2, 3, 4, 5, 6, 7] [] [8] (by kernel_rfl) ?_)
                conv => whnf
                have hb0 : (0 : Int) ≤ (i : Int) := Int.natCast_nonneg _
                have hb1 : (i : Int) < (now.length : Int) := by omega
                have hl1 : (i : Int) < (hs.length : Int) := by omega
                have hs2 : (ntSet hs c i).length = now.length := by rw [ntSet, List.length_set, hc]
                repeat' (refine Bnd.mk hb0 hb1 ?_; conv => whnf)
                refine DrawG.q (by kernel_rfl) ?_
                conv => whnf
                refine Two.mk (fun h7 => ?_) (fun h7 => ?_) <;> conv => whnf
                · have h7' : decide (best < 0) = true := h7
                  rw [h7', cond_true] at hs1
                  refine Two.yes rfl ?_
                  conv => whnf
                  refine ⟨(i + 1, ntSet hs c i, IntKind.i64.wrap (sum + (hs.getD i hz).weight), (i : Int)), ⟨⟨hlt, hs1.symm, hs2, hl1⟩, show hs.length - (i + 1) < hs.length - i by omega⟩, ?_⟩
                  repeat' (first | exact True.intro | exact rfl | (refine FinG.done ?_; conv => whnf) | (refine And.intro ?_ ?_) | exact Nat.le_of_ble_eq_true rfl | (refine Two.no rfl ?_; conv => whnf) | (refine Two.yes rfl ?_; conv => whnf))
                  conv => whnf
                  exact (congrArg (Value.int IntKind.i64) (wk (by omega))).symm
                · have h7' : decide (best < 0) = false := h7
                  have hb2 : (0 : Int) ≤ best := by have := of_decide_eq_false h7'; omega
                  have hb3 : best < (now.length : Int) := by omega
                  rw [h7', cond_false] at hs1
                  refine Bnd.mk hb0 hb1 ?_
                  conv => whnf
                  refine Bnd.mk hb2 hb3 ?_
                  conv => whnf
                  refine Two.mk (fun h8 => ?_) (fun h8 => ?_) <;> conv => whnf
                  · have h8' : decide ((ntSet hs c i).getD i 0 > (ntSet hs c i).getD best.toNat 0) = true := h8
                    rw [h8', cond_true] at hs1
                    refine ⟨(i + 1, ntSet hs c i, IntKind.i64.wrap (sum + (hs.getD i hz).weight), (i : Int)), ⟨⟨hlt, hs1.symm, hs2, hl1⟩, show hs.length - (i + 1) < hs.length - i by omega⟩, ?_⟩
                    repeat' (first | exact True.intro | exact rfl | (refine FinG.done ?_; conv => whnf) | (refine And.intro ?_ ?_) | exact Nat.le_of_ble_eq_true rfl | (refine Two.no rfl ?_; conv => whnf) | (refine Two.yes rfl ?_; conv => whnf))
                    conv => whnf
                    exact (congrArg (Value.int IntKind.i64) (wk (by omega))).symm
                  · have h8' : decide ((ntSet hs c i).getD i 0 > (ntSet hs c i).getD best.toNat 0) = false := h8
                    rw [h8', cond_false] at hs1
                    refine ⟨(i + 1, ntSet hs c i, IntKind.i64.wrap (sum + (hs.getD i hz).weight), best), ⟨⟨hlt, hs1.symm, hs2, hbn⟩, show hs.length - (i + 1) < hs.length - i by omega⟩, ?_⟩
                    repeat' (first | exact True.intro | exact rfl | (refine FinG.done ?_; conv => whnf) | (refine And.intro ?_ ?_) | exact Nat.le_of_ble_eq_true rfl | (refine Two.no rfl ?_; conv => whnf) | (refine Two.yes rfl ?_; conv => whnf))
                    conv => whnf
                    exact (congrArg (Value.int IntKind.i64) (wk (by omega))).symm
            · have hge : ¬ i < hs.length := by simpa using h5
              have hi' : i = hs.length := by omega
              subst hi'
              rw [hne, ← hx] at hq hb
              refine Two.mk (fun h6 => ?_) (fun h6 => ?_) <;> conv => whnf
              · have h6' : decide (best ≥ 0) = true := h6
                have hb2 : (0 : Int) ≤ best := of_decide_eq_true h6'
                have hb3 : best < (now.length : Int) := by omega
                simp only [ntEnd, h6', cond_true] at hq hb
                subst hq hb
                repeat' (refine Bnd.mk hb2 hb3 ?_; conv => whnf)
                repeat' (first | exact True.intro | exact rfl | (refine FinG.done ?_; conv => whnf) | (refine And.intro ?_ ?_) | exact Nat.le_of_ble_eq_true rfl | (refine Two.no rfl ?_; conv => whnf) | (refine Two.yes rfl ?_; conv => whnf))
                all_goals (conv => rhs; whnf)
                exact row_takeN rfl (Nat.le_of_eq (by rw [List.length_set, hc]))
              · have h6' : decide (best ≥ 0) = false := h6
                simp only [ntEnd, h6', cond_false] at hq hb
                subst hq hb
                repeat' (first | exact True.intro | exact rfl | (refine FinG.done ?_; conv => whnf) | (refine And.intro ?_ ?_) | exact Nat.le_of_ble_eq_true rfl | (refine Two.no rfl ?_; conv => whnf) | (refine Two.yes rfl ?_; conv => whnf))
                all_goals (conv => rhs; whnf)
                exact row_takeN rfl (Nat.le_of_eq hc)
end Go.Proofs.Ytjmhffbenbiieaa.Ev
