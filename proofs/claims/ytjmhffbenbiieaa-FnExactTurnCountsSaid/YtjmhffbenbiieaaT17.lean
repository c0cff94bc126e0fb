import Derived.Test.YtjmhffbenbiieaaT16
set_option linter.unusedVariables false
set_option linter.unusedSimpArgs false
namespace Go.Proofs.Ytjmhffbenbiieaa.Ev
open Go.RowKit

def mark1 (k : Nat) : HostV := ⟨mkT k, (k + 1 : Nat), (k + 2 : Nat), (k + 3 : Nat), (((k + 4 : Nat) : Int).tmod 3 == 0)⟩
def mksH (n k : Nat) : List HostV := (List.range n).map fun i => mark1 (k + 5 * i)
theorem wk {n : Nat} (h : n ≤ 1099511627776) : IntKind.i64.wrap ((n : Int) + 1) = ((n + 1 : Nat) : Int) := by rw [wrap_id (by omega) (by omega)]; rfl
theorem wk2 {n : Nat} (h : n ≤ 1099511627000) : IntKind.i64.wrap (IntKind.i64.wrap ((n : Int) + 1) + 1) = ((n + 2 : Nat) : Int) := (congrArg (fun x => IntKind.i64.wrap (x + 1)) (wk (n := n) (by omega))).trans (wk (n := n + 1) (by omega))
theorem wk3 {n : Nat} (h : n ≤ 1099511627000) : IntKind.i64.wrap (IntKind.i64.wrap (IntKind.i64.wrap ((n : Int) + 1) + 1) + 1) = ((n + 3 : Nat) : Int) := (congrArg (fun x => IntKind.i64.wrap (x + 1)) (wk2 (n := n) (by omega))).trans (wk (n := n + 2) (by omega))
theorem wk4 {n : Nat} (h : n ≤ 1099511627000) : IntKind.i64.wrap (IntKind.i64.wrap (IntKind.i64.wrap (IntKind.i64.wrap ((n : Int) + 1) + 1) + 1) + 1) = ((n + 4 : Nat) : Int) := (congrArg (fun x => IntKind.i64.wrap (x + 1)) (wk3 (n := n) (by omega))).trans (wk (n := n + 3) (by omega))
theorem wk5 {n : Nat} (h : n ≤ 1099511627000) : IntKind.i64.wrap (IntKind.i64.wrap (IntKind.i64.wrap (IntKind.i64.wrap (IntKind.i64.wrap ((n : Int) + 1) + 1) + 1) + 1) + 1) = ((n + 5 : Nat) : Int) := (congrArg (fun x => IntKind.i64.wrap (x + 1)) (wk4 (n := n) (by omega))).trans (wk (n := n + 4) (by omega))
def up1 (i : Nat) (a : ByteArray) (xs : List HostV) : List HostV := xs.set i { xs.getD i hz with name := a }
def up2 (i : Nat) (a : Int) (xs : List HostV) : List HostV := xs.set i { xs.getD i hz with weight := a }
def up3 (i : Nat) (a : Int) (xs : List HostV) : List HostV := xs.set i { xs.getD i hz with busy := a }
def up4 (i : Nat) (a : Int) (xs : List HostV) : List HostV := xs.set i { xs.getD i hz with room := a }
def up5 (i : Nat) (a : Bool) (xs : List HostV) : List HostV := xs.set i { xs.getD i hz with down := a }
theorem up_all {i : Nat} {xs : List HostV} (hi : i < xs.length) (a : ByteArray) (b c d : Int) (e : Bool) : up5 i e (up4 i d (up3 i c (up2 i b (up1 i a xs)))) = xs.set i ⟨a, b, c, d, e⟩ := by
  simp [up1, up2, up3, up4, up5, List.getD, hi, List.set_set]
theorem mks_len (n k : Nat) : (mksH n k).length = n := by simp [mksH]
theorem mks_succ (hs : List HostV) (i k : Nat) (hi : i < hs.length) : mksH (i + 1) k ++ hs.drop (i + 1) = (mksH i k ++ hs.drop i).set i (mark1 (k + 5 * i)) := by
  rw [List.set_append_right _ _ (by rw [mks_len]; omega), mks_len, Nat.sub_self, List.drop_eq_getElem_cons hi, List.set_cons_zero]
  simp [mksH, List.range_succ]
theorem ok_markHostS (hs : List HostV) (k : Nat) (hl : hs.length ≤ 1048576) (hk : k ≤ 1073741824) : Ok cx 11 [.one (.wr 0 hs.length), vi k] [] [⟨true, elHost, hs⟩] [.one (.val (.int .i64 (k + 5 * hs.length : Nat)))] [] [⟨true, elHost, mksH hs.length k⟩] := by
  refine Ok_of_vc (C := cx) cx_ok cx_mix (fn := Try.f11) rfl (by kernel_rfl) rfl (Nat.le_of_ble_eq_true (by kernel_rfl)) ?_
  conv => whnf
  refine ⟨Nat, fun i => i ≤ hs.length, fun i => hs.length - i,
      fun i => { sl := [(0, .pv (.one (.ref 0 hs.length))), (1, sI (k + 5 * i : Nat)), (4, sI 0), (5, sI i)], rw := [(0, ⟨true, elHost, mksH i k ++ hs.drop i⟩)], ob := [], nx := 1, po := [], pr := [0] },
      0, Nat.zero_le _, ?_, fun i hi => ?_⟩
  · repeat' (first | exact True.intro | exact rfl | (refine FinG.done ?_; conv => whnf) | (refine And.intro ?_ ?_) | exact Nat.le_of_ble_eq_true rfl | (refine Two.no rfl ?_; conv => whnf) | (refine Two.yes rfl ?_; conv => whnf))
  · conv => whnf
    refine Two.mk (fun h2 => ?_) (fun h2 => ?_) <;> conv => whnf
    · have hlt : i < hs.length := by simpa using h2
      have hb : k + 5 * i ≤ 1099511627000 := by omega
      refine CallG.at (ok_markText (k + 5 * i) (by omega)) ?_
      conv => whnf
      repeat' (first | (refine Bnd.mk (Int.natCast_nonneg _) (by simpa using hlt) ?_; conv => whnf) | (refine Bnd.mk rfl (by decide) ?_; conv => whnf))
      refine ⟨i + 1, ⟨hlt, show hs.length - (i + 1) < hs.length - i by omega⟩, ?_⟩
      repeat' (first | exact True.intro | exact rfl | (refine FinG.done ?_; conv => whnf) | (refine And.intro ?_ ?_) | exact Nat.le_of_ble_eq_true rfl | (refine Two.no rfl ?_; conv => whnf) | (refine Two.yes rfl ?_; conv => whnf))
      · conv => whnf
        exact (congrArg (Value.int IntKind.i64) (wk5 (by omega))).symm
      · conv => whnf
        exact (congrArg (Value.int IntKind.i64) (wk (by omega))).symm
      · conv => whnf
        refine row_eq ((mks_succ hs i k hlt).trans ?_)
        refine Eq.trans ?_ (up_all (i := i) (xs := mksH i k ++ hs.drop i) (by rw [List.length_append, mks_len, List.length_drop]; omega) (mkT (k + 5 * i)) (IntKind.i64.wrap ((k + 5 * i : Nat) + 1)) (IntKind.i64.wrap (IntKind.i64.wrap ((k + 5 * i : Nat) + 1) + 1)) (IntKind.i64.wrap (IntKind.i64.wrap (IntKind.i64.wrap ((k + 5 * i : Nat) + 1) + 1) + 1)) ((IntKind.i64.wrap (IntKind.i64.wrap (IntKind.i64.wrap (IntKind.i64.wrap ((k + 5 * i : Nat) + 1) + 1) + 1) + 1)).tmod 3 == 0)).symm
        rw [wk4 (n := k + 5 * i) (by omega), wk3 (n := k + 5 * i) (by omega), wk2 (n := k + 5 * i) (by omega), wk (n := k + 5 * i) (by omega)]
        rfl
    · have hge : ¬ i < hs.length := by simpa using h2
      have hi' : i = hs.length := by have : i ≤ hs.length := hi; omega
      subst hi'
      repeat' (first | exact True.intro | exact rfl | (refine FinG.done ?_; conv => whnf) | (refine And.intro ?_ ?_) | exact Nat.le_of_ble_eq_true rfl | (refine Two.no rfl ?_; conv => whnf) | (refine Two.yes rfl ?_; conv => whnf))
      · conv => whnf
        exact row_eq (by rw [List.drop_length, List.append_nil])
      · show [(mksH hs.length k).length] = [hs.length]
        simp [mksH]
end Go.Proofs.Ytjmhffbenbiieaa.Ev
