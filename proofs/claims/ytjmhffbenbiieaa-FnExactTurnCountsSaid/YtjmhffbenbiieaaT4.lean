import Derived.Test.YtjmhffbenbiieaaT3
set_option linter.unusedVariables false
set_option linter.unusedSimpArgs false
namespace Go.Proofs.Ytjmhffbenbiieaa.Ev
open Go.RowKit

theorem ok_toHost (h : HostV) : Ok cx 21 [.agg h.cells] [] [] [.agg h.rcells] [] [] := by
  refine Ok_of_vc (C := cx) cx_ok cx_mix (fn := Try.f21) rfl (by kernel_rfl) rfl (Nat.le_of_ble_eq_true (by kernel_rfl)) ?_
  conv => whnf
  repeat' (first | exact True.intro | exact rfl | (refine FinG.done ?_; conv => whnf) | (refine And.intro ?_ ?_) | exact Nat.le_of_ble_eq_true rfl | (refine Two.no rfl ?_; conv => whnf) | (refine Two.yes rfl ?_; conv => whnf))

theorem set_fill {α : Type} (l : List α) (z : α) (i n : Nat) (hn : l.length = n) (hi : i < n) (x : α) (hx : l[i]? = some x) : l.take (i + 1) ++ List.replicate (n - (i + 1)) z = (l.take i ++ List.replicate (n - i) z).set i x := by
  have h1 : n - i = (n - (i + 1)) + 1 := by omega
  rw [h1, List.replicate_succ, List.take_add_one, hx]
  have h2 : (l.take i).length = i := by rw [List.length_take]; omega
  rw [List.set_append_right _ _ (by omega), h2, Nat.sub_self]
  simp
theorem row_eq {el : El} {xs ys : List el.α} (h : xs = ys) : (⟨true, el, xs⟩ : Row) = ⟨true, el, ys⟩ := by rw [h]
theorem getD_get {α : Type} (l : List α) (i : Nat) (z : α) (h : i < l.length) : l[i]? = some (l.getD i z) := by
  rw [List.getD_eq_getElem?_getD, List.getElem?_eq_getElem h]; rfl

theorem ok_toHostS (hs : List HostV) (hl : hs.length ≤ 1048576) : Ok cx 7 [.one (.row elHostL hs)] [] [] [.one (.row elHost hs)] [] [] := by
  refine Ok_of_vc (C := cx) cx_ok cx_mix (fn := Try.f7) rfl (by kernel_rfl) rfl (Nat.le_of_ble_eq_true (by kernel_rfl)) ?_
  conv => whnf
  refine ⟨rfl, ⟨Int.natCast_nonneg _, ?_⟩, ?_⟩
  · show ((hs.length : Nat) : Int).toNat * 48 ≤ 281474976710656
    omega
  conv => whnf
  refine ⟨Nat, fun i => i ≤ hs.length, fun i => hs.length - i,
      fun i => { sl := [(0, .pv (.one (.ref 0 hs.length))), (3, .pv (.one (.ref 1 hs.length))), (4, .pv (.one (.val (.int .i64 i))))], rw := [(0, ⟨false, elHostL, hs⟩), (1, ⟨true, elHost, hs.take i ++ List.replicate (hs.length - i) elHost.zero⟩)], ob := [], nx := 2, po := [], pr := [] },
      0, Nat.zero_le _, ?_, fun i hi => ?_⟩
  · repeat' (first | exact True.intro | exact rfl | (refine FinG.done ?_; conv => whnf) | (refine And.intro ?_ ?_) | exact Nat.le_of_ble_eq_true rfl | (refine Two.no rfl ?_; conv => whnf) | (refine Two.yes rfl ?_; conv => whnf))
  · conv => whnf
    refine ⟨fun h2 => ?_, fun h2 => ?_⟩ <;> conv => whnf
    · have hlt : i < hs.length := by simpa using h2
      refine ⟨Int.natCast_nonneg _, by simpa using hlt, ?_⟩
      conv => whnf
      refine CallG.of (ok_toHost (hs.getD i elHostL.zero)) ?_
      conv => whnf
      refine ⟨Int.natCast_nonneg _, by simpa using hlt, ?_⟩
      conv => whnf
      refine ⟨i + 1, ⟨hlt, show hs.length - (i + 1) < hs.length - i by omega⟩, ?_⟩
      repeat' (first | exact True.intro | exact rfl | (refine FinG.done ?_; conv => whnf) | (refine And.intro ?_ ?_) | exact Nat.le_of_ble_eq_true rfl | (refine Two.no rfl ?_; conv => whnf) | (refine Two.yes rfl ?_; conv => whnf))
      · conv => whnf
        rw [wrap_id (by omega) (by omega)]; rfl
      · conv => whnf
        exact row_eq (set_fill hs _ i _ rfl hlt _ (getD_get _ _ _ hlt))
    · have hge : ¬ (i : Int) < hs.length := by simpa using h2
      repeat' (first | exact True.intro | exact rfl | (refine FinG.done ?_; conv => whnf) | (refine And.intro ?_ ?_) | exact Nat.le_of_ble_eq_true rfl | (refine Two.no rfl ?_; conv => whnf) | (refine Two.yes rfl ?_; conv => whnf))
      conv => whnf
      refine row_eq (?_ : hs = List.take hs.length (hs.take i ++ List.replicate (hs.length - i) elHost.zero))
      have hi' : i = hs.length := by have : i ≤ hs.length := hi; omega
      rw [hi']; simp
theorem ok_eqHost (h : HostV) : Ok cx 24 [.agg h.cells, .agg h.cells] [] [] [.one (.val (.bool true))] [] [] := by
  refine Ok_of_vc (C := cx) cx_ok cx_mix (fn := Try.f24) rfl (by kernel_rfl) rfl (Nat.le_of_ble_eq_true (by kernel_rfl)) ?_
  conv => whnf
  refine ⟨fun hh => by simp at hh, fun _ => ?_⟩
  conv => whnf
  refine ⟨fun hh => by simp at hh, fun _ => ?_⟩
  conv => whnf
  refine ⟨fun hh => by simp at hh, fun _ => ?_⟩
  conv => whnf
  refine ⟨fun hh => by simp at hh, fun _ => ?_⟩
  conv => whnf
  refine ⟨fun hh => by simp at hh, fun _ => ?_⟩
  conv => whnf
  repeat' (first | exact True.intro | exact rfl | (refine FinG.done ?_; conv => whnf) | (refine And.intro ?_ ?_) | exact Nat.le_of_ble_eq_true rfl | (refine Two.no rfl ?_; conv => whnf) | (refine Two.yes rfl ?_; conv => whnf))
theorem ok_eqHostS (hs : List HostV) (hl : hs.length ≤ 1048576) : Ok cx 10 [.one (.row elHost hs), .one (.row elHost hs)] [] [] [.one (.val (.bool true))] [] [] := by
  refine Ok_of_vc (C := cx) cx_ok cx_mix (fn := Try.f10) rfl (by kernel_rfl) rfl (Nat.le_of_ble_eq_true (by kernel_rfl)) ?_
  conv => whnf
  refine ⟨fun hh => by simp at hh, fun _ => ?_⟩
  conv => whnf
  refine ⟨Nat, fun i => i ≤ hs.length, fun i => hs.length - i,
      fun i => { sl := [(0, .pv (.one (.ref 0 hs.length))), (1, .pv (.one (.ref 1 hs.length))), (4, .pv (.one (.val (.bool false)))), (5, .pv (.one (.val (.int .i64 i))))], rw := [(0, ⟨false, elHost, hs⟩), (1, ⟨false, elHost, hs⟩)], ob := [], nx := 2, po := [], pr := [] },
      0, Nat.zero_le _, ?_, fun i hi => ?_⟩
  · repeat' (first | exact True.intro | exact rfl | (refine FinG.done ?_; conv => whnf) | (refine And.intro ?_ ?_) | exact Nat.le_of_ble_eq_true rfl | (refine Two.no rfl ?_; conv => whnf) | (refine Two.yes rfl ?_; conv => whnf))
  · conv => whnf
    refine ⟨fun h2 => ?_, fun h2 => ?_⟩ <;> conv => whnf
    · have hlt : i < hs.length := by simpa using h2
      refine DrawG.q (by kernel_rfl) ?_
      conv => whnf
      refine ⟨Int.natCast_nonneg _, by simpa using hlt, ?_⟩
      conv => whnf
      refine ⟨Int.natCast_nonneg _, by simpa using hlt, ?_⟩
      conv => whnf
      refine CallQ.of (ok_eqHost (hs.getD i elHost.zero)) ?_
      conv => whnf
      refine ⟨fun hh => by simp at hh, fun _ => ?_⟩
      conv => whnf
      refine ⟨i + 1, ⟨hlt, show hs.length - (i + 1) < hs.length - i by omega⟩, ?_⟩
      repeat' (first | exact True.intro | exact rfl | (refine FinG.done ?_; conv => whnf) | (refine And.intro ?_ ?_) | exact Nat.le_of_ble_eq_true rfl | (refine Two.no rfl ?_; conv => whnf) | (refine Two.yes rfl ?_; conv => whnf))
      conv => whnf
      rw [wrap_id (by omega) (by omega)]; rfl
    · repeat' (first | exact True.intro | exact rfl | (refine FinG.done ?_; conv => whnf) | (refine And.intro ?_ ?_) | exact Nat.le_of_ble_eq_true rfl | (refine Two.no rfl ?_; conv => whnf) | (refine Two.yes rfl ?_; conv => whnf))
end Go.Proofs.Ytjmhffbenbiieaa.Ev
