import Derived.Test.YtjmhffbenbiieaaT4
set_option linter.unusedVariables false
set_option linter.unusedSimpArgs false
namespace Go.Proofs.Ytjmhffbenbiieaa.Ev
open Go.RowKit

theorem ok_in52 (a b c : Int) : Ok cx 37 [vi a, vi b, vi c] [] [] [.one (.val (.bool (decide (a ≥ b) && decide (a ≤ c))))] [] [] := by
  refine Ok_of_vc (C := cx) cx_ok cx_mix (fn := Try.f37) rfl (by kernel_rfl) rfl (Nat.le_of_ble_eq_true (by kernel_rfl)) ?_
  conv => whnf
  refine ⟨fun h => ?_, fun h => ?_⟩ <;> conv => whnf
  · have h' : decide (a ≥ b) = true := h
    repeat' (first | exact True.intro | exact rfl | (refine FinG.done ?_; conv => whnf) | (refine And.intro ?_ ?_) | exact Nat.le_of_ble_eq_true rfl | (refine Two.no rfl ?_; conv => whnf) | (refine Two.yes rfl ?_; conv => whnf))
    conv => whnf
    rw [h']; rfl
  · have h' : decide (a ≥ b) = false := h
    repeat' (first | exact True.intro | exact rfl | (refine FinG.done ?_; conv => whnf) | (refine And.intro ?_ ?_) | exact Nat.le_of_ble_eq_true rfl | (refine Two.no rfl ?_; conv => whnf) | (refine Two.yes rfl ?_; conv => whnf))
    conv => whnf
    rw [h']; rfl

theorem ok_l16Host (h : HostV) (hn : h.name.size ≤ 1048576) : Ok cx 39 [.agg h.cells] [] [] [.one (.val (.bool h.ok))] [] [] := by
  refine Ok_of_vc (C := cx) cx_ok cx_mix (fn := Try.f39) rfl (by kernel_rfl) rfl (Nat.le_of_ble_eq_true (by kernel_rfl)) ?_
  conv => whnf
  refine CallG.of (ok_in52 _ _ _) ?_
  conv => whnf
  refine ⟨fun h1 => ?_, fun h1 => ?_⟩ <;> conv => whnf
  · repeat' (first | exact True.intro | exact rfl | (refine FinG.done ?_; conv => whnf) | (refine And.intro ?_ ?_) | exact Nat.le_of_ble_eq_true rfl | (refine Two.no rfl ?_; conv => whnf) | (refine Two.yes rfl ?_; conv => whnf))
    conv => whnf
    have h1' : inB h.name.size 1 8 = false := by
      have : (!(inB h.name.size 1 8)) = true := h1
      simpa using this
    simp only [HostV.ok, h1', Bool.false_and, Bool.and_false]
  · have h1' : inB h.name.size 1 8 = true := by
      have : (!(inB h.name.size 1 8)) = false := h1
      simpa using this
    refine ⟨Nat, fun i => i ≤ h.name.size ∧ (h.name.data.toList.take i).all letter = true, fun i => h.name.size - i,
      fun i => { sl := [(1, .pv (.one (.ptr 0 0))), (2, .pv (.one (.val (.bool false)))), (3, .pv (.one (.val (.int .i64 i))))], rw := [], ob := [(0, ⟨41, [.val (.string h.name), .val (.int .i64 h.weight), .val (.int .i64 h.busy), .val (.int .i64 h.room), .val (.bool h.down)], true⟩)], nx := 1, po := [], pr := [] }, 0, ⟨Nat.zero_le _, rfl⟩, ?_, fun i hi => ?_⟩
    · repeat' (first | exact True.intro | exact rfl | (refine FinG.done ?_; conv => whnf) | (refine And.intro ?_ ?_) | exact Nat.le_of_ble_eq_true rfl | (refine Two.no rfl ?_; conv => whnf) | (refine Two.yes rfl ?_; conv => whnf))
    · have hl := size_eq h.name
      conv => whnf
      refine ⟨fun hlt => ?_, fun hge => ?_⟩ <;> conv => whnf
      · have hlt' : i < h.name.size := by simpa using hlt
        refine ⟨by omega, by simpa using hlt, fun h1 => ?_, fun h1 => ?_⟩ <;> conv => whnf
        · refine ⟨fun _ => ?_, fun h => Bool.noConfusion h⟩
          conv => whnf
          repeat' (first | exact True.intro | exact rfl | (refine FinG.done ?_; conv => whnf) | (refine And.intro ?_ ?_) | exact Nat.le_of_ble_eq_true rfl | (refine Two.no rfl ?_; conv => whnf) | (refine Two.yes rfl ?_; conv => whnf))
          conv => whnf
          rw [HostV.ok_bad hlt']
          simp only [Int.toNat_natCast, decide_eq_true_eq] at h1
          simp only [letter, Bool.and_eq_false_iff, decide_eq_false_iff_not]; omega
        · refine ⟨by omega, by simpa using hlt, fun h2 => ?_, fun h2 => ?_⟩ <;> conv => whnf
          · repeat' (first | exact True.intro | exact rfl | (refine FinG.done ?_; conv => whnf) | (refine And.intro ?_ ?_) | exact Nat.le_of_ble_eq_true rfl | (refine Two.no rfl ?_; conv => whnf) | (refine Two.yes rfl ?_; conv => whnf))
            conv => whnf
            rw [HostV.ok_bad hlt']
            simp only [Int.toNat_natCast, cond_false, decide_eq_true_eq] at h2
            simp only [letter, Bool.and_eq_false_iff, decide_eq_false_iff_not]; omega
          · refine ⟨i + 1, ⟨⟨hlt', ?_⟩, show h.name.size - (i + 1) < h.name.size - i by omega⟩, ?_⟩
            · rw [take_all (by omega), hi.2]
              simp only [Int.toNat_natCast, cond_false, decide_eq_false_iff_not] at h1 h2
              simp only [letter, Bool.true_and, Bool.and_eq_true, decide_eq_true_eq]; omega
            · repeat' (first | exact True.intro | exact rfl | (refine FinG.done ?_; conv => whnf) | (refine And.intro ?_ ?_) | exact Nat.le_of_ble_eq_true rfl | (refine Two.no rfl ?_; conv => whnf) | (refine Two.yes rfl ?_; conv => whnf))
              conv => whnf
              rw [wrap_id (by omega) (by omega)]; rfl
      · have hall := HostV.ok_all (h := h) (i := i) (by simpa using hge) hi.2
        rw [h1', Bool.true_and] at hall
        refine CallG.of (ok_in52 _ _ _) ?_
        conv => whnf
        refine ⟨fun h2 => ?_, fun h2 => ?_⟩ <;> conv => whnf
        · refine CallG.of (ok_in52 _ _ _) ?_
          conv => whnf
          refine ⟨fun h3 => ?_, fun h3 => ?_⟩ <;> conv => whnf
          · refine CallG.of (ok_in52 _ _ _) ?_
            conv => whnf
            repeat' (first | exact True.intro | exact rfl | (refine FinG.done ?_; conv => whnf) | (refine And.intro ?_ ?_) | exact Nat.le_of_ble_eq_true rfl | (refine Two.no rfl ?_; conv => whnf) | (refine Two.yes rfl ?_; conv => whnf))
            conv => whnf
            simp only [cond_true] at h2 h3
            simp only [hall, inB, h2, h3, Bool.true_and]; rfl
          · repeat' (first | exact True.intro | exact rfl | (refine FinG.done ?_; conv => whnf) | (refine And.intro ?_ ?_) | exact Nat.le_of_ble_eq_true rfl | (refine Two.no rfl ?_; conv => whnf) | (refine Two.yes rfl ?_; conv => whnf))
            conv => whnf
            simp only [cond_true] at h2 h3
            simp only [hall, inB, h2, h3, Bool.true_and, Bool.false_and]
        · repeat' (first | exact True.intro | exact rfl | (refine FinG.done ?_; conv => whnf) | (refine And.intro ?_ ?_) | exact Nat.le_of_ble_eq_true rfl | (refine Two.no rfl ?_; conv => whnf) | (refine Two.yes rfl ?_; conv => whnf))
          conv => whnf
          simp only [hall, inB, h2, Bool.true_and, Bool.false_and]

def sameN (x h : HostV) : Bool := x.name.toList == h.name.toList
def HostV.ocells (h : HostV) : List OC := [.val (.string h.name), .val (.int .i64 h.weight), .val (.int .i64 h.busy), .val (.int .i64 h.room), .val (.bool h.down)]
theorem ok_same (x h : HostV) : Ok cx 44 [.agg x.cells, .one (.obj 0)] [⟨41, h.ocells, true⟩] [] [.one (.val (.bool (sameN x h)))] [⟨41, h.ocells, true⟩] [] := by
  refine Ok_of_vc (C := cx) cx_ok cx_mix (fn := Try.f44) rfl (by kernel_rfl) rfl (Nat.le_of_ble_eq_true (by kernel_rfl)) ?_
  conv => whnf
  repeat' (first | exact True.intro | exact rfl | (refine FinG.done ?_; conv => whnf) | (refine And.intro ?_ ?_) | exact Nat.le_of_ble_eq_true rfl | (refine Two.no rfl ?_; conv => whnf) | (refine Two.yes rfl ?_; conv => whnf))
def ixF (p : HostV → Bool) : Nat → List HostV → Int
  | _, [] => -1
  | k, x :: t => if p x = true then k else ixF p (k + 1) t
theorem ixF_any (p : HostV → Bool) : ∀ (l : List HostV) (k : Nat), decide (ixF p k l ≥ 0) = l.any p
  | [], k => by simp [ixF]
  | x :: t, k => by
    simp only [ixF, List.any_cons]
    by_cases hp : p x = true
    · simp [hp]
    · simpa [hp] using ixF_any p t (k + 1)
theorem drop_get {l : List HostV} {i : Nat} (z : HostV) (h : i < l.length) : l.drop i = l.getD i z :: l.drop (i + 1) := by
  rw [List.drop_eq_getElem_cons h, List.getD_eq_getElem?_getD, List.getElem?_eq_getElem h]; rfl
theorem ok_index (xs : List HostV) (h : HostV) (hl : xs.length ≤ 1048576) : Ok cx 55 [.one (.row elHost xs), .one (.fn 44 [0])] [⟨41, h.ocells, true⟩] [] [.one (.val (.int .i64 (ixF (fun x => sameN x h) 0 xs)))] [⟨41, h.ocells, true⟩] [] := by
  refine Ok_of_vc (C := cx) cx_ok cx_mix (fn := Try.f55) rfl (by kernel_rfl) rfl (Nat.le_of_ble_eq_true (by kernel_rfl)) ?_
  conv => whnf
  refine ⟨Nat, fun i => i ≤ xs.length ∧ ixF (fun x => sameN x h) i (xs.drop i) = ixF (fun x => sameN x h) 0 xs, fun i => xs.length - i,
      fun i => { sl := [(0, .pv (.one (.ref 1 xs.length))), (1, .pv (.one (.clo 44 [0]))), (7, .pv (.one (.val (.int .i64 xs.length)))), (8, .pv (.one (.val (.int .i64 i))))], rw := [(1, ⟨false, elHost, xs⟩)], ob := [(0, ⟨41, [.val (.string h.name), .val (.int .i64 h.weight), .val (.int .i64 h.busy), .val (.int .i64 h.room), .val (.bool h.down)], true⟩)], nx := 2, po := [0], pr := [] },
      0, ⟨Nat.zero_le _, rfl⟩, ?_, fun i hi => ?_⟩
  · repeat' (first | exact True.intro | exact rfl | (refine FinG.done ?_; conv => whnf) | (refine And.intro ?_ ?_) | exact Nat.le_of_ble_eq_true rfl | (refine Two.no rfl ?_; conv => whnf) | (refine Two.yes rfl ?_; conv => whnf))
  · conv => whnf
    refine ⟨fun h2 => ?_, fun h2 => ?_⟩ <;> conv => whnf
    · have hlt : i < xs.length := by simpa using h2
      have hx := hi.2
      rw [drop_get elHost.zero hlt, ixF] at hx
      refine ⟨Int.natCast_nonneg _, by simpa using hlt, ?_⟩
      conv => whnf
      refine CallG.of (ok_same (xs.getD i elHost.zero) h) ?_
      conv => whnf
      refine ⟨fun h3 => ?_, fun h3 => ?_⟩ <;> conv => whnf
      · repeat' (first | exact True.intro | exact rfl | (refine FinG.done ?_; conv => whnf) | (refine And.intro ?_ ?_) | exact Nat.le_of_ble_eq_true rfl | (refine Two.no rfl ?_; conv => whnf) | (refine Two.yes rfl ?_; conv => whnf))
        conv => whnf
        have h3' : sameN (xs.getD i elHost.zero) h = true := h3
        rw [if_pos h3'] at hx
        rw [← hx]
      · have h3' : ¬ sameN (xs.getD i elHost.zero) h = true := by have : sameN (xs.getD i elHost.zero) h = false := h3; rw [this]; simp
        rw [if_neg h3'] at hx
        refine ⟨i + 1, ⟨⟨hlt, hx⟩, show xs.length - (i + 1) < xs.length - i by omega⟩, ?_⟩
        repeat' (first | exact True.intro | exact rfl | (refine FinG.done ?_; conv => whnf) | (refine And.intro ?_ ?_) | exact Nat.le_of_ble_eq_true rfl | (refine Two.no rfl ?_; conv => whnf) | (refine Two.yes rfl ?_; conv => whnf))
        conv => whnf
        rw [wrap_id (by omega) (by omega)]; rfl
    · repeat' (first | exact True.intro | exact rfl | (refine FinG.done ?_; conv => whnf) | (refine And.intro ?_ ?_) | exact Nat.le_of_ble_eq_true rfl | (refine Two.no rfl ?_; conv => whnf) | (refine Two.yes rfl ?_; conv => whnf))
      conv => whnf
      have hge : ¬ (i : Int) < xs.length := by simpa using h2
      have hx := hi.2
      rw [List.drop_of_length_le (by omega)] at hx
      rw [← hx]; rfl
theorem ok_index' {ys xs : List HostV} (e : ys = xs) (h : HostV) (hl : xs.length ≤ 1048576) : Ok cx 55 [.one (.row elHost ys), .one (.fn 44 [0])] [⟨41, h.ocells, true⟩] [] [.one (.val (.int .i64 (ixF (fun x => sameN x h) 0 xs)))] [⟨41, h.ocells, true⟩] [] := by
  subst e; exact ok_index _ h hl
theorem ok_contains (xs : List HostV) (h : HostV) (hl : xs.length ≤ 1048576) : Ok cx 43 [.one (.row elHost xs), .one (.fn 44 [0])] [⟨41, h.ocells, true⟩] [] [.one (.val (.bool (xs.any fun x => sameN x h)))] [⟨41, h.ocells, true⟩] [] := by
  refine Ok_of_vc (C := cx) cx_ok cx_mix (fn := Try.f43) rfl (by kernel_rfl) rfl (Nat.le_of_ble_eq_true (by kernel_rfl)) ?_
  conv => whnf
  refine CallG.of (ok_index' (List.take_length (l := xs)) h hl) ?_
  conv => whnf
  repeat' (first | exact True.intro | exact rfl | (refine FinG.done ?_; conv => whnf) | (refine And.intro ?_ ?_) | exact Nat.le_of_ble_eq_true rfl | (refine Two.no rfl ?_; conv => whnf) | (refine Two.yes rfl ?_; conv => whnf))
  conv => whnf
  rw [← ixF_any _ xs 0]
end Go.Proofs.Ytjmhffbenbiieaa.Ev
