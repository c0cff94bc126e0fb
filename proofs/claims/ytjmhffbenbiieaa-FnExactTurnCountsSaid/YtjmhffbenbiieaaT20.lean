import Derived.Test.YtjmhffbenbiieaaT18
import Derived.Test.YtjmhffbenbiieaaT7
import Derived.Test.YtjmhffbenbiieaaT11
set_option linter.unusedVariables false
set_option linter.unusedSimpArgs false
namespace Go.Proofs.Ytjmhffbenbiieaa.Ev
open Go.RowKit

theorem dec_int (x : Int) : elInt.dec (elInt.enc x) = some x := rfl
theorem ok_icopy (xs : List Int) (hl : xs.length ≤ 1048576) : Ok cx 54 [.one (.row elInt xs)] [] [] [.one (.row elInt xs)] [] [] := by
  refine Ok_of_vc (C := cx) cx_ok cx_mix (fn := Try.f54) rfl (by kernel_rfl) rfl (Nat.le_of_ble_eq_true (by kernel_rfl)) ?_
  conv => whnf
  refine NilG.mk (fun b hb => ?_)
  conv => whnf
  refine ⟨fun h1 => ?_, fun h1 => ?_⟩ <;> conv => whnf
  · have hnil : xs = [] := hb h1
    subst hnil
    refine FinG.weak { sl := [(2, .pv (.one (.ref 1 0)))], rw := [(1, ⟨true, elInt, []⟩)], ob := [], nx := 2, po := [], pr := [] } ?_ ?_
    · repeat' (first | exact True.intro | exact rfl | (refine FinG.done ?_; conv => whnf) | (refine And.intro ?_ ?_) | exact Nat.le_of_ble_eq_true rfl | (refine Two.no rfl ?_; conv => whnf) | (refine Two.yes rfl ?_; conv => whnf))
    · conv => whnf
      repeat' (first | exact True.intro | exact rfl | (refine FinG.done ?_; conv => whnf) | (refine And.intro ?_ ?_) | exact Nat.le_of_ble_eq_true rfl | (refine Two.no rfl ?_; conv => whnf) | (refine Two.yes rfl ?_; conv => whnf))
  · refine AppG.of xs ?_ ?_ ?_
    · show convRow elInt elInt (xs.take xs.length) = some xs
      rw [List.take_length]; exact convRow_self (e := elInt) dec_int xs
    · show (0 + xs.length) * 8 ≤ 140737488355328
      omega
    · conv => whnf
      refine FinG.weak { sl := [(2, .pv (.one (.ref 1 xs.length)))], rw := [(1, ⟨true, elInt, xs⟩)], ob := [], nx := 2, po := [], pr := [] } ?_ ?_
      · repeat' (first | exact True.intro | exact rfl | (refine FinG.done ?_; conv => whnf) | (refine And.intro ?_ ?_) | exact Nat.le_of_ble_eq_true rfl | (refine Two.no rfl ?_; conv => whnf) | (refine Two.yes rfl ?_; conv => whnf))
        all_goals (conv => whnf)
        exact (Nat.zero_add _).symm
      · conv => whnf
        repeat' (first | exact True.intro | exact rfl | (refine FinG.done ?_; conv => whnf) | (refine And.intro ?_ ?_) | exact Nat.le_of_ble_eq_true rfl | (refine Two.no rfl ?_; conv => whnf) | (refine Two.yes rfl ?_; conv => whnf))
        conv => whnf
        exact row_eq (List.take_length (l := xs)).symm
theorem take_istep {l : List Int} {i : Nat} (z : Int) (h : i < l.length) : l.take (i + 1) = (l.take i).take i ++ [l.getD i z] := by
  rw [List.take_take, Nat.min_self, List.take_add_one, getD_get l i z h]; rfl
theorem ok_l01Copy (xs : List Int) (hl : xs.length ≤ 1048576) : Ok cx 53 [.one (.row elInt xs)] [] [] [.one (.row elInt xs)] [] [] := by
  refine Ok_of_vc (C := cx) cx_ok cx_mix (fn := Try.f53) rfl (by kernel_rfl) rfl (Nat.le_of_ble_eq_true (by kernel_rfl)) ?_
  conv => whnf
  refine ⟨Nat, fun i => i ≤ xs.length, fun i => xs.length - i,
      fun i => { sl := [(0, .pv (.one (.ref 0 xs.length))), (3, .pv (.one (.ref 1 i))), (4, .pv (.one (.val (.int .i64 i))))], rw := [(0, ⟨false, elInt, xs⟩), (1, ⟨true, elInt, xs.take i⟩)], ob := [], nx := 2, po := [], pr := [] },
      0, Nat.zero_le _, ?_, fun i hi => ?_⟩
  · repeat' (first | exact True.intro | exact rfl | (refine FinG.done ?_; conv => whnf) | (refine And.intro ?_ ?_) | exact Nat.le_of_ble_eq_true rfl | (refine Two.no rfl ?_; conv => whnf) | (refine Two.yes rfl ?_; conv => whnf))
  · conv => whnf
    refine ⟨fun h2 => ?_, fun h2 => ?_⟩ <;> conv => whnf
    · have hlt : i < xs.length := by simpa using h2
      refine ⟨Int.natCast_nonneg _, by simpa using hlt, ?_⟩
      conv => whnf
      refine AppG.of [xs.getD i (0 : Int)] (convRow_self (e := elInt) dec_int [xs.getD i (0 : Int)]) ?_ ?_
      · show (i + 1) * 8 ≤ 140737488355328
        omega
      · conv => whnf
        refine ⟨i + 1, ⟨hlt, show xs.length - (i + 1) < xs.length - i by omega⟩, ?_⟩
        repeat' (first | exact True.intro | exact rfl | (refine FinG.done ?_; conv => whnf) | (refine And.intro ?_ ?_) | exact Nat.le_of_ble_eq_true rfl | (refine Two.no rfl ?_; conv => whnf) | (refine Two.yes rfl ?_; conv => whnf))
        · conv => whnf
          exact (congrArg (Value.int IntKind.i64) (wrap_succ' (by omega))).symm
        · conv => whnf
          exact row_eq (take_istep (0 : Int) hlt)
    · have hge : ¬ (i : Int) < xs.length := by simpa using h2
      have hi' : i = xs.length := by have : i ≤ xs.length := hi; omega
      repeat' (first | exact True.intro | exact rfl | (refine FinG.done ?_; conv => whnf) | (refine And.intro ?_ ?_) | exact Nat.le_of_ble_eq_true rfl | (refine Two.no rfl ?_; conv => whnf) | (refine Two.yes rfl ?_; conv => whnf))
      conv => whnf
      refine row_eq (?_ : xs = List.take i (xs.take i))
      rw [hi']; simp
theorem ok_toIntS (xs : List Int) (hl : xs.length ≤ 1048576) : Ok cx 15 [.one (.row elInt xs)] [] [] [.one (.row elInt xs)] [] [] := by
  refine Ok_of_vc (C := cx) cx_ok cx_mix (fn := Try.f15) rfl (by kernel_rfl) rfl (Nat.le_of_ble_eq_true (by kernel_rfl)) ?_
  conv => whnf
  refine ⟨rfl, ⟨Int.natCast_nonneg _, ?_⟩, ?_⟩
  · show ((xs.length : Nat) : Int).toNat * 8 ≤ 281474976710656
    omega
  conv => whnf
  refine ⟨Nat, fun i => i ≤ xs.length, fun i => xs.length - i,
      fun i => { sl := [(0, .pv (.one (.ref 0 xs.length))), (3, .pv (.one (.ref 1 xs.length))), (4, .pv (.one (.val (.int .i64 i))))], rw := [(0, ⟨false, elInt, xs⟩), (1, ⟨true, elInt, xs.take i ++ List.replicate (xs.length - i) elInt.zero⟩)], ob := [], nx := 2, po := [], pr := [] },
      0, Nat.zero_le _, ?_, fun i hi => ?_⟩
  · repeat' (first | exact True.intro | exact rfl | (refine FinG.done ?_; conv => whnf) | (refine And.intro ?_ ?_) | exact Nat.le_of_ble_eq_true rfl | (refine Two.no rfl ?_; conv => whnf) | (refine Two.yes rfl ?_; conv => whnf))
  · conv => whnf
    refine ⟨fun h2 => ?_, fun h2 => ?_⟩ <;> conv => whnf
    · have hlt : i < xs.length := by simpa using h2
      refine ⟨Int.natCast_nonneg _, by simpa using hlt, ?_⟩
      conv => whnf
      refine ⟨Int.natCast_nonneg _, by simpa using hlt, ?_⟩
      conv => whnf
      refine ⟨i + 1, ⟨hlt, show xs.length - (i + 1) < xs.length - i by omega⟩, ?_⟩
      repeat' (first | exact True.intro | exact rfl | (refine FinG.done ?_; conv => whnf) | (refine And.intro ?_ ?_) | exact Nat.le_of_ble_eq_true rfl | (refine Two.no rfl ?_; conv => whnf) | (refine Two.yes rfl ?_; conv => whnf))
      · conv => whnf
        rw [wrap_id (by omega) (by omega)]; rfl
      · conv => whnf
        exact row_eq (set_fill xs _ i _ rfl hlt _ (getD_get _ _ _ hlt))
    · have hge : ¬ (i : Int) < xs.length := by simpa using h2
      repeat' (first | exact True.intro | exact rfl | (refine FinG.done ?_; conv => whnf) | (refine And.intro ?_ ?_) | exact Nat.le_of_ble_eq_true rfl | (refine Two.no rfl ?_; conv => whnf) | (refine Two.yes rfl ?_; conv => whnf))
      conv => whnf
      refine row_eq (?_ : xs = List.take xs.length (xs.take i ++ List.replicate (xs.length - i) elInt.zero))
      have hi' : i = xs.length := by have : i ≤ xs.length := hi; omega
      rw [hi']; simp
theorem ok_eqIntS (xs : List Int) (hl : xs.length ≤ 1048576) : Ok cx 9 [.one (.row elInt xs), .one (.row elInt xs)] [] [] [.one (.val (.bool true))] [] [] := by
  refine Ok_of_vc (C := cx) cx_ok cx_mix (fn := Try.f9) rfl (by kernel_rfl) rfl (Nat.le_of_ble_eq_true (by kernel_rfl)) ?_
  conv => whnf
  refine ⟨fun hh => by simp at hh, fun _ => ?_⟩
  conv => whnf
  refine ⟨Nat, fun i => i ≤ xs.length, fun i => xs.length - i,
      fun i => { sl := [(0, .pv (.one (.ref 0 xs.length))), (1, .pv (.one (.ref 1 xs.length))), (4, .pv (.one (.val (.bool false)))), (5, .pv (.one (.val (.int .i64 i))))], rw := [(0, ⟨false, elInt, xs⟩), (1, ⟨false, elInt, xs⟩)], ob := [], nx := 2, po := [], pr := [] },
      0, Nat.zero_le _, ?_, fun i hi => ?_⟩
  · repeat' (first | exact True.intro | exact rfl | (refine FinG.done ?_; conv => whnf) | (refine And.intro ?_ ?_) | exact Nat.le_of_ble_eq_true rfl | (refine Two.no rfl ?_; conv => whnf) | (refine Two.yes rfl ?_; conv => whnf))
  · conv => whnf
    refine ⟨fun h2 => ?_, fun h2 => ?_⟩ <;> conv => whnf
    · have hlt : i < xs.length := by simpa using h2
      refine DrawG.q (by kernel_rfl) ?_
      conv => whnf
      refine ⟨Int.natCast_nonneg _, by simpa using hlt, ?_⟩
      conv => whnf
      refine ⟨Int.natCast_nonneg _, by simpa using hlt, ?_⟩
      conv => whnf
      refine ⟨fun hh => by simp at hh, fun _ => ?_⟩
      conv => whnf
      refine ⟨i + 1, ⟨hlt, show xs.length - (i + 1) < xs.length - i by omega⟩, ?_⟩
      repeat' (first | exact True.intro | exact rfl | (refine FinG.done ?_; conv => whnf) | (refine And.intro ?_ ?_) | exact Nat.le_of_ble_eq_true rfl | (refine Two.no rfl ?_; conv => whnf) | (refine Two.yes rfl ?_; conv => whnf))
      conv => whnf
      rw [wrap_id (by omega) (by omega)]; rfl
    · repeat' (first | exact True.intro | exact rfl | (refine FinG.done ?_; conv => whnf) | (refine And.intro ?_ ?_) | exact Nat.le_of_ble_eq_true rfl | (refine Two.no rfl ?_; conv => whnf) | (refine Two.yes rfl ?_; conv => whnf))
def mksI (n k : Nat) : List Int := (List.range n).map fun i => ((k + i : Nat) : Int)
@[simp] theorem mksI_len (n k : Nat) : (mksI n k).length = n := by simp [mksI]
@[simp] theorem mksI_take (n k : Nat) : List.take n (mksI n k) = mksI n k := List.take_of_length_le (Nat.le_of_eq (mksI_len n k))
theorem mksI_get {n k i : Nat} (h : i < n) (z : Int) : (mksI n k).getD i z = (k + i : Nat) := by
  simp [mksI, List.getD, h]
theorem mksI_succ (xs : List Int) (i k : Nat) (hi : i < xs.length) : mksI (i + 1) k ++ xs.drop (i + 1) = (mksI i k ++ xs.drop i).set i (k + i : Nat) := by
  rw [List.set_append_right _ _ (by rw [mksI_len]; omega), mksI_len, Nat.sub_self, List.drop_eq_getElem_cons hi, List.set_cons_zero]
  simp [mksI, List.range_succ]
theorem ok_markIntS (xs : List Int) (k : Nat) (hl : xs.length ≤ 1048576) (hk : k ≤ 1073741824) : Ok cx 12 [.one (.wr 0 xs.length), vi k] [] [⟨true, elInt, xs⟩] [.one (.val (.int .i64 (k + xs.length : Nat)))] [] [⟨true, elInt, mksI xs.length k⟩] := by
  refine Ok_of_vc (C := cx) cx_ok cx_mix (fn := Try.f12) rfl (by kernel_rfl) rfl (Nat.le_of_ble_eq_true (by kernel_rfl)) ?_
  conv => whnf
  refine ⟨Nat, fun i => i ≤ xs.length, fun i => xs.length - i,
      fun i => { sl := [(0, .pv (.one (.ref 0 xs.length))), (1, sI (k + i : Nat)), (4, sI 0), (5, sI i)], rw := [(0, ⟨true, elInt, mksI i k ++ xs.drop i⟩)], ob := [], nx := 1, po := [], pr := [0] },
      0, Nat.zero_le _, ?_, fun i hi => ?_⟩
  · repeat' (first | exact True.intro | exact rfl | (refine FinG.done ?_; conv => whnf) | (refine And.intro ?_ ?_) | exact Nat.le_of_ble_eq_true rfl | (refine Two.no rfl ?_; conv => whnf) | (refine Two.yes rfl ?_; conv => whnf))
  · conv => whnf
    refine Two.mk (fun h2 => ?_) (fun h2 => ?_) <;> conv => whnf
    · have hlt : i < xs.length := by simpa using h2
      have hb : k + i ≤ 1099511627000 := by omega
      refine Bnd.mk (Int.natCast_nonneg _) (by simpa using hlt) ?_
      conv => whnf
      refine ⟨i + 1, ⟨hlt, show xs.length - (i + 1) < xs.length - i by omega⟩, ?_⟩
      repeat' (first | exact True.intro | exact rfl | (refine FinG.done ?_; conv => whnf) | (refine And.intro ?_ ?_) | exact Nat.le_of_ble_eq_true rfl | (refine Two.no rfl ?_; conv => whnf) | (refine Two.yes rfl ?_; conv => whnf))
      · conv => whnf
        exact (congrArg (Value.int IntKind.i64) (wk (n := k + i) (by omega))).symm
      · conv => whnf
        exact (congrArg (Value.int IntKind.i64) (wk (by omega))).symm
      · conv => whnf
        exact row_eq (mksI_succ xs i k hlt)
    · have hge : ¬ i < xs.length := by simpa using h2
      have hi' : i = xs.length := by have : i ≤ xs.length := hi; omega
      subst hi'
      repeat' (first | exact True.intro | exact rfl | (refine FinG.done ?_; conv => whnf) | (refine And.intro ?_ ?_) | exact Nat.le_of_ble_eq_true rfl | (refine Two.no rfl ?_; conv => whnf) | (refine Two.yes rfl ?_; conv => whnf))
      · conv => whnf
        exact row_eq (by rw [List.drop_length, List.append_nil])
      · show [(mksI xs.length k).length] = [xs.length]
        simp [mksI]
theorem ok_heldIntS (n k : Nat) (hl : n ≤ 1048576) (hk : k ≤ 1073741824) (xs : List Int) (e : xs = mksI n k) : Ok cx 13 [.one (.row elInt xs), vi k] [] [] [.one (.val (.int .i64 (k + n : Nat)))] [] [] := by
  have hn : xs.length = n := by rw [e, mksI_len]
  refine Ok_of_vc (C := cx) cx_ok cx_mix (fn := Try.f13) rfl (by kernel_rfl) rfl (Nat.le_of_ble_eq_true (by kernel_rfl)) ?_
  conv => whnf
  refine ⟨Nat, fun i => i ≤ n, fun i => n - i,
      fun i => { sl := [(0, .pv (.one (.ref 0 xs.length))), (1, sI (k + i : Nat)), (4, sI 0), (5, sI i)], rw := [(0, ⟨false, elInt, xs⟩)], ob := [], nx := 1, po := [], pr := [] },
      0, Nat.zero_le _, ?_, fun i hi => ?_⟩
  · repeat' (first | exact True.intro | exact rfl | (refine FinG.done ?_; conv => whnf) | (refine And.intro ?_ ?_) | exact Nat.le_of_ble_eq_true rfl | (refine Two.no rfl ?_; conv => whnf) | (refine Two.yes rfl ?_; conv => whnf))
  · conv => whnf
    refine Two.mk (fun h2 => ?_) (fun h2 => ?_) <;> conv => whnf
    · have hlt : i < xs.length := by simpa using h2
      have hb : k + i ≤ 1099511627000 := by omega
      have hg : xs.getD i 0 = (k + i : Nat) := by rw [e]; exact mksI_get (by omega) _
      refine Bnd.mk (Int.natCast_nonneg _) (by simpa using hlt) ?_
      conv => whnf
      refine Two.no (show ((xs.getD i 0 != ((k + i : Nat) : Int)) = false) by rw [hg]; exact bne_self_eq_false _) ?_
      conv => whnf
      refine ⟨i + 1, ⟨by show i + 1 ≤ n; omega, show n - (i + 1) < n - i by omega⟩, ?_⟩
      repeat' (first | exact True.intro | exact rfl | (refine FinG.done ?_; conv => whnf) | (refine And.intro ?_ ?_) | exact Nat.le_of_ble_eq_true rfl | (refine Two.no rfl ?_; conv => whnf) | (refine Two.yes rfl ?_; conv => whnf))
      · conv => whnf
        exact (congrArg (Value.int IntKind.i64) (wk (n := k + i) (by omega))).symm
      · conv => whnf
        exact (congrArg (Value.int IntKind.i64) (wk (by omega))).symm
    · have hge : ¬ i < xs.length := by simpa using h2
      have hi' : i = n := by have : i ≤ n := hi; omega
      subst hi'
      repeat' (first | exact True.intro | exact rfl | (refine FinG.done ?_; conv => whnf) | (refine And.intro ?_ ?_) | exact Nat.le_of_ble_eq_true rfl | (refine Two.no rfl ?_; conv => whnf) | (refine Two.yes rfl ?_; conv => whnf))
end Go.Proofs.Ytjmhffbenbiieaa.Ev
