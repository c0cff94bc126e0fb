import Derived.Test.YtjmhffbenbiieaaT17
set_option linter.unusedVariables false
set_option linter.unusedSimpArgs false
namespace Go.Proofs.Ytjmhffbenbiieaa.Ev
open Go.RowKit

theorem mks_get {n k i : Nat} (h : i < n) (z : HostV) : (mksH n k).getD i z = mark1 (k + 5 * i) := by
  simp [mksH, List.getD, h]
@[simp] theorem mks_take (n k : Nat) : List.take n (mksH n k) = mksH n k := List.take_of_length_le (Nat.le_of_eq (mks_len n k))
theorem ok_heldHostS (n k : Nat) (hl : n ≤ 1048576) (hk : k ≤ 1073741824) (hs : List HostV) (e : hs = mksH n k) : Ok cx 17 [.one (.row elHost hs), vi k] [] [] [.one (.val (.int .i64 (k + 5 * n : Nat)))] [] [] := by
  have hn : hs.length = n := by rw [e, mks_len]
  refine Ok_of_vc (C := cx) cx_ok cx_mix (fn := Try.f17) rfl (by kernel_rfl) rfl (Nat.le_of_ble_eq_true (by kernel_rfl)) ?_
  conv => whnf
  refine ⟨Nat, fun i => i ≤ n, fun i => n - i,
      fun i => { sl := [(0, .pv (.one (.ref 0 hs.length))), (1, sI (k + 5 * i : Nat)), (4, sI 0), (5, sI i)], rw := [(0, ⟨false, elHost, hs⟩)], ob := [], nx := 1, po := [], pr := [] },
      0, Nat.zero_le _, ?_, fun i hi => ?_⟩
  · repeat' (first | exact True.intro | exact rfl | (refine FinG.done ?_; conv => whnf) | (refine And.intro ?_ ?_) | exact Nat.le_of_ble_eq_true rfl | (refine Two.no rfl ?_; conv => whnf) | (refine Two.yes rfl ?_; conv => whnf))
  · conv => whnf
    refine Two.mk (fun h2 => ?_) (fun h2 => ?_) <;> conv => whnf
    · have hlt : i < hs.length := by simpa using h2
      have hb : k + 5 * i ≤ 1099511627000 := by omega
      have hg : hs.getD i elHost.zero = mark1 (k + 5 * i) := by rw [e]; exact mks_get (by omega) _
      refine DrawG.q (by kernel_rfl) ?_
      conv => whnf
      refine Bnd.mk (Int.natCast_nonneg _) (by simpa using hlt) ?_
      conv => whnf
      refine CallQ.at (ok_markText (k + 5 * i) (by omega)) ?_
      conv => whnf
      refine Two.no (show ((!((hs.getD i elHost.zero).name.toList == (mkT (k + 5 * i)).toList)) = false) by rw [hg]; exact bne_self_eq_false _) ?_
      conv => whnf
      refine Bnd.mk (Int.natCast_nonneg _) (by simpa using hlt) ?_
      conv => whnf
      refine Two.no (show (((hs.getD i elHost.zero).weight != IntKind.i64.wrap ((k + 5 * i : Nat) + 1)) = false) by rw [hg, wk (n := k + 5 * i) (by omega)]; exact bne_self_eq_false _) ?_
      conv => whnf
      refine Bnd.mk (Int.natCast_nonneg _) (by simpa using hlt) ?_
      conv => whnf
      refine Two.no (show (((hs.getD i elHost.zero).busy != IntKind.i64.wrap (IntKind.i64.wrap ((k + 5 * i : Nat) + 1) + 1)) = false) by rw [hg, wk2 (n := k + 5 * i) hb]; exact bne_self_eq_false _) ?_
      conv => whnf
      refine Bnd.mk (Int.natCast_nonneg _) (by simpa using hlt) ?_
      conv => whnf
      refine Two.no (show (((hs.getD i elHost.zero).room != IntKind.i64.wrap (IntKind.i64.wrap (IntKind.i64.wrap ((k + 5 * i : Nat) + 1) + 1) + 1)) = false) by rw [hg, wk3 (n := k + 5 * i) hb]; exact bne_self_eq_false _) ?_
      conv => whnf
      repeat' (first | (refine Bnd.mk (Int.natCast_nonneg _) (by simpa using hlt) ?_; conv => whnf) | (refine Bnd.mk rfl (by decide) ?_; conv => whnf))
      refine Two.no (show (((hs.getD i elHost.zero).down != ((IntKind.i64.wrap (IntKind.i64.wrap (IntKind.i64.wrap (IntKind.i64.wrap ((k + 5 * i : Nat) + 1) + 1) + 1) + 1)).tmod 3 == 0)) = false) by rw [hg, wk4 (n := k + 5 * i) hb]; exact bne_self_eq_false _) ?_
      conv => whnf
      refine ⟨i + 1, ⟨by show i + 1 ≤ n; omega, show n - (i + 1) < n - i by omega⟩, ?_⟩
      repeat' (first | exact True.intro | exact rfl | (refine FinG.done ?_; conv => whnf) | (refine And.intro ?_ ?_) | exact Nat.le_of_ble_eq_true rfl | (refine Two.no rfl ?_; conv => whnf) | (refine Two.yes rfl ?_; conv => whnf))
      · conv => whnf
        exact (congrArg (Value.int IntKind.i64) (wk5 (n := k + 5 * i) hb)).symm
      · conv => whnf
        exact (congrArg (Value.int IntKind.i64) (wk (by omega))).symm
    · have hge : ¬ i < hs.length := by simpa using h2
      have hi' : i = n := by have : i ≤ n := hi; omega
      subst hi'
      repeat' (first | exact True.intro | exact rfl | (refine FinG.done ?_; conv => whnf) | (refine And.intro ?_ ?_) | exact Nat.le_of_ble_eq_true rfl | (refine Two.no rfl ?_; conv => whnf) | (refine Two.yes rfl ?_; conv => whnf))
end Go.Proofs.Ytjmhffbenbiieaa.Ev
