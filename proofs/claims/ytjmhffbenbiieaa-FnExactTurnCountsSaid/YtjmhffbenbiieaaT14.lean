import Derived.Test.YtjmhffbenbiieaaT13
import Derived.Test.YtjmhffbenbiieaaT11
set_option linter.unusedVariables false
set_option linter.unusedSimpArgs false
namespace Go.Proofs.Ytjmhffbenbiieaa.Ev
open Go.RowKit

theorem ok_clone' {ys hs : List HostV} (e : ys = hs) (hl : hs.length ≤ 1048576) : Ok cx 31 [.one (.row elHost ys)] [] [] [.one (.row elHost hs)] [] [] := by
  subst e; exact ok_clone _ hl
theorem ok_copy' {ys hs : List HostV} (e : ys = hs) (hl : hs.length ≤ 1048576) : Ok cx 26 [.one (.row elHost ys)] [] [] [.one (.row elHost hs)] [] [] := by
  subst e; exact ok_copy _ hl
theorem ok_hostsOk2 {ys hs : List HostV} (e : ys = hs) (hl : hs.length ≤ 1048576) (hn : ∀ h ∈ hs, h.name.size ≤ 1048576) : Ok cx 23 [.one (.row elHost ys)] [] [] [.one (.val (.bool (hostsOk hs)))] [] [] := by
  subst e; exact ok_hostsOk _ hl hn
def mayAt (may : HostV → Bool) (hs : List HostV) (at_ : Int) : Bool := hostsOk hs && (inB at_ 0 (IntKind.i64.wrap (hs.length - 1)) && may (hs.getD at_.toNat hz))
theorem ok_doTake (hs : List HostV) (i : Nat) (hi : i < hs.length) : Ok cx 48 [.one (.elp 0 i 5)] [] [⟨true, elHost, hs⟩] [] [] [⟨true, elHost, hs.set i { hs.getD i hz with busy := IntKind.i64.wrap ((hs.getD i hz).busy + 1) }⟩] := ok_inc hs i hi
theorem ok_doGive (hs : List HostV) (i : Nat) (hi : i < hs.length) : Ok cx 50 [.one (.elp 0 i 5)] [] [⟨true, elHost, hs⟩] [] [] [⟨true, elHost, hs.set i { hs.getD i hz with busy := IntKind.i64.wrap ((hs.getD i hz).busy - 1) }⟩] := ok_dec hs i hi
theorem ok_maySet (d : Bool) (h : HostV) : Ok cx 51 [.agg h.cells, .one (.obj 0)] [⟨4, [.val (.bool d)], true⟩] [] [.one (.val (.bool (h.down != d)))] [⟨4, [.val (.bool d)], true⟩] [] := by
  refine Ok_of_vc (C := cx) cx_ok cx_mix (fn := Try.f51) rfl (by kernel_rfl) rfl (Nat.le_of_ble_eq_true (by kernel_rfl)) ?_
  conv => whnf
  repeat' (first | exact True.intro | exact rfl | (refine FinG.done ?_; conv => whnf) | (refine And.intro ?_ ?_) | exact Nat.le_of_ble_eq_true rfl | (refine Two.no rfl ?_; conv => whnf) | (refine Two.yes rfl ?_; conv => whnf))
theorem ok_doSet (d : Bool) (hs : List HostV) (i : Nat) (hi : i < hs.length) : Ok cx 52 [.one (.elp 0 i 5), .one (.obj 0)] [⟨4, [.val (.bool d)], true⟩] [⟨true, elHost, hs⟩] [] [⟨4, [.val (.bool d)], true⟩] [⟨true, elHost, hs.set i { hs.getD i hz with down := d }⟩] := by
  refine Ok_of_vc (C := cx) cx_ok cx_mix (fn := Try.f52) rfl (by kernel_rfl) rfl (Nat.le_of_ble_eq_true (by kernel_rfl)) ?_
  conv => whnf
  repeat' (first | exact True.intro | exact rfl | (refine FinG.done ?_; conv => whnf) | (refine And.intro ?_ ?_) | exact Nat.le_of_ble_eq_true rfl | (refine Two.no rfl ?_; conv => whnf) | (refine Two.yes rfl ?_; conv => whnf))
  simp
theorem ok_changeTake (hs : List HostV) (p : Int) (hl : hs.length ≤ 1048576) (hn : ∀ h ∈ hs, h.name.size ≤ 1048576) : Ok cx 46 [.one (.row elHost hs), vi p, .one (.fn 47 []), .one (.fn 48 [])] [] []
    [.one (.row elHost (cond (mayAt (fun h => !h.down && decide (h.busy < h.room)) hs p) (hs.set p.toNat { hs.getD p.toNat hz with busy := IntKind.i64.wrap ((hs.getD p.toNat hz).busy + 1) }) hs)), .one (.val (.bool (mayAt (fun h => !h.down && decide (h.busy < h.room)) hs p)))] [] [] := by
  generalize hm : mayAt (fun h => !h.down && decide (h.busy < h.room)) hs p = m
  refine Ok_of_vc (C := cx) cx_ok cx_mix (fn := Try.f46) rfl (by kernel_rfl) rfl (Nat.le_of_ble_eq_true (by kernel_rfl)) ?_
  conv => whnf
  refine CallG.of (ok_clone' (List.take_length (l := hs)) hl) ?_
  conv => whnf
  refine CallG.of (ok_hostsOk2 (List.take_length (l := hs)) hl hn) ?_
  conv => whnf
  refine ⟨fun h1 => ?_, fun h1 => ?_⟩ <;> conv => whnf
  · have h1' : hostsOk hs = false := by
      have : (!(hostsOk hs)) = true := h1
      simpa using this
    have hm' : m = false := by rw [← hm]; simp only [mayAt, h1', Bool.false_and]
    subst hm'
    refine ⟨fun _ => ?_, fun h => Bool.noConfusion h⟩
    conv => whnf
    refine ⟨fun _ => ?_, fun h => Bool.noConfusion h⟩
    conv => whnf
    repeat' (first | exact True.intro | exact rfl | (refine FinG.done ?_; conv => whnf) | (refine And.intro ?_ ?_) | exact Nat.le_of_ble_eq_true rfl | (refine Two.no rfl ?_; conv => whnf) | (refine Two.yes rfl ?_; conv => whnf))
    conv => whnf
    exact row_eq (List.take_length (l := hs)).symm
  · have h1' : hostsOk hs = true := by
      have : (!(hostsOk hs)) = false := h1
      simpa using this
    refine CallG.of (ok_in _ _ _) ?_
    conv => whnf
    refine ⟨fun h2 => ?_, fun h2 => ?_⟩ <;> conv => whnf
    · have h2' : inB p 0 (IntKind.i64.wrap (hs.length - 1)) = false := by
        have : (!(inB p 0 (IntKind.i64.wrap (hs.length - 1)))) = true := h2
        simpa using this
      have hm' : m = false := by rw [← hm]; simp only [mayAt, h1', h2', Bool.false_and, Bool.true_and]
      subst hm'
      refine ⟨fun _ => ?_, fun h => Bool.noConfusion h⟩
      conv => whnf
      repeat' (first | exact True.intro | exact rfl | (refine FinG.done ?_; conv => whnf) | (refine And.intro ?_ ?_) | exact Nat.le_of_ble_eq_true rfl | (refine Two.no rfl ?_; conv => whnf) | (refine Two.yes rfl ?_; conv => whnf))
      conv => whnf
      exact row_eq (List.take_length (l := hs)).symm
    · have h2' : inB p 0 (IntKind.i64.wrap (hs.length - 1)) = true := by
        have : (!(inB p 0 (IntKind.i64.wrap (hs.length - 1)))) = false := h2
        simpa using this
      have hw : IntKind.i64.wrap ((hs.length : Int) - 1) = hs.length - 1 := wrap_id (by omega) (by omega)
      have hp : 0 ≤ p ∧ p < hs.length := by
        rw [hw] at h2'
        simp only [inB, Bool.and_eq_true, decide_eq_true_eq] at h2'
        omega
      refine ⟨hp.1, hp.2, ?_⟩
      conv => whnf
      refine CallG.of (ok_mayTake (hs.getD p.toNat hz)) ?_
      conv => whnf
      refine ⟨fun h3 => ?_, fun h3 => ?_⟩ <;> conv => whnf
      · have h3' : (!(hs.getD p.toNat hz).down && decide ((hs.getD p.toNat hz).busy < (hs.getD p.toNat hz).room)) = false := by
          have : (!(!(hs.getD p.toNat hz).down && decide ((hs.getD p.toNat hz).busy < (hs.getD p.toNat hz).room))) = true := h3
          rwa [Bool.not_eq_true'] at this
        have hm' : m = false := by rw [← hm]; simp only [mayAt, h1', h2', h3', Bool.true_and]
        subst hm'
        repeat' (first | exact True.intro | exact rfl | (refine FinG.done ?_; conv => whnf) | (refine And.intro ?_ ?_) | exact Nat.le_of_ble_eq_true rfl | (refine Two.no rfl ?_; conv => whnf) | (refine Two.yes rfl ?_; conv => whnf))
        conv => whnf
        exact row_eq (List.take_length (l := hs)).symm
      · have h3' : (!(hs.getD p.toNat hz).down && decide ((hs.getD p.toNat hz).busy < (hs.getD p.toNat hz).room)) = true := by
          have : (!(!(hs.getD p.toNat hz).down && decide ((hs.getD p.toNat hz).busy < (hs.getD p.toNat hz).room))) = false := h3
          rwa [Bool.not_eq_false'] at this
        have hm' : m = true := by rw [← hm]; simp only [mayAt, h1', h2', h3', Bool.true_and]
        subst hm'
        refine ⟨hp.1, hp.2, ?_⟩
        conv => whnf
        refine CallG.of (ok_doTake hs p.toNat (by omega)) ?_
        conv => whnf
        repeat' (first | exact True.intro | exact rfl | (refine FinG.done ?_; conv => whnf) | (refine And.intro ?_ ?_) | exact Nat.le_of_ble_eq_true rfl | (refine Two.no rfl ?_; conv => whnf) | (refine Two.yes rfl ?_; conv => whnf))
        conv => whnf
        exact row_eq (List.take_of_length_le (Nat.le_of_eq List.length_set)).symm
theorem ok_changeGive (hs : List HostV) (p : Int) (hl : hs.length ≤ 1048576) (hn : ∀ h ∈ hs, h.name.size ≤ 1048576) : Ok cx 46 [.one (.row elHost hs), vi p, .one (.fn 49 []), .one (.fn 50 [])] [] []
    [.one (.row elHost (cond (mayAt (fun h => decide (h.busy > 0)) hs p) (hs.set p.toNat { hs.getD p.toNat hz with busy := IntKind.i64.wrap ((hs.getD p.toNat hz).busy - 1) }) hs)), .one (.val (.bool (mayAt (fun h => decide (h.busy > 0)) hs p)))] [] [] := by
  generalize hm : mayAt (fun h => decide (h.busy > 0)) hs p = m
  refine Ok_of_vc (C := cx) cx_ok cx_mix (fn := Try.f46) rfl (by kernel_rfl) rfl (Nat.le_of_ble_eq_true (by kernel_rfl)) ?_
  conv => whnf
  refine CallG.of (ok_clone' (List.take_length (l := hs)) hl) ?_
  conv => whnf
  refine CallG.of (ok_hostsOk2 (List.take_length (l := hs)) hl hn) ?_
  conv => whnf
  refine ⟨fun h1 => ?_, fun h1 => ?_⟩ <;> conv => whnf
  · have h1' : hostsOk hs = false := by
      have : (!(hostsOk hs)) = true := h1
      simpa using this
    have hm' : m = false := by rw [← hm]; simp only [mayAt, h1', Bool.false_and]
    subst hm'
    refine ⟨fun _ => ?_, fun h => Bool.noConfusion h⟩
    conv => whnf
    refine ⟨fun _ => ?_, fun h => Bool.noConfusion h⟩
    conv => whnf
    repeat' (first | exact True.intro | exact rfl | (refine FinG.done ?_; conv => whnf) | (refine And.intro ?_ ?_) | exact Nat.le_of_ble_eq_true rfl | (refine Two.no rfl ?_; conv => whnf) | (refine Two.yes rfl ?_; conv => whnf))
    conv => whnf
    exact row_eq (List.take_length (l := hs)).symm
  · have h1' : hostsOk hs = true := by
      have : (!(hostsOk hs)) = false := h1
      simpa using this
    refine CallG.of (ok_in _ _ _) ?_
    conv => whnf
    refine ⟨fun h2 => ?_, fun h2 => ?_⟩ <;> conv => whnf
    · have h2' : inB p 0 (IntKind.i64.wrap (hs.length - 1)) = false := by
        have : (!(inB p 0 (IntKind.i64.wrap (hs.length - 1)))) = true := h2
        simpa using this
      have hm' : m = false := by rw [← hm]; simp only [mayAt, h1', h2', Bool.false_and, Bool.true_and]
      subst hm'
      refine ⟨fun _ => ?_, fun h => Bool.noConfusion h⟩
      conv => whnf
      repeat' (first | exact True.intro | exact rfl | (refine FinG.done ?_; conv => whnf) | (refine And.intro ?_ ?_) | exact Nat.le_of_ble_eq_true rfl | (refine Two.no rfl ?_; conv => whnf) | (refine Two.yes rfl ?_; conv => whnf))
      conv => whnf
      exact row_eq (List.take_length (l := hs)).symm
    · have h2' : inB p 0 (IntKind.i64.wrap (hs.length - 1)) = true := by
        have : (!(inB p 0 (IntKind.i64.wrap (hs.length - 1)))) = false := h2
        simpa using this
      have hw : IntKind.i64.wrap ((hs.length : Int) - 1) = hs.length - 1 := wrap_id (by omega) (by omega)
      have hp : 0 ≤ p ∧ p < hs.length := by
        rw [hw] at h2'
        simp only [inB, Bool.and_eq_true, decide_eq_true_eq] at h2'
        omega
      refine ⟨hp.1, hp.2, ?_⟩
      conv => whnf
      refine CallG.of (ok_mayGive (hs.getD p.toNat hz)) ?_
      conv => whnf
      refine ⟨fun h3 => ?_, fun h3 => ?_⟩ <;> conv => whnf
      · have h3' : (decide ((hs.getD p.toNat hz).busy > 0)) = false := by
          have : (!(decide ((hs.getD p.toNat hz).busy > 0))) = true := h3
          rwa [Bool.not_eq_true'] at this
        have hm' : m = false := by rw [← hm]; simp only [mayAt, h1', h2', h3', Bool.true_and]
        subst hm'
        repeat' (first | exact True.intro | exact rfl | (refine FinG.done ?_; conv => whnf) | (refine And.intro ?_ ?_) | exact Nat.le_of_ble_eq_true rfl | (refine Two.no rfl ?_; conv => whnf) | (refine Two.yes rfl ?_; conv => whnf))
        conv => whnf
        exact row_eq (List.take_length (l := hs)).symm
      · have h3' : (decide ((hs.getD p.toNat hz).busy > 0)) = true := by
          have : (!(decide ((hs.getD p.toNat hz).busy > 0))) = false := h3
          rwa [Bool.not_eq_false'] at this
        have hm' : m = true := by rw [← hm]; simp only [mayAt, h1', h2', h3', Bool.true_and]
        subst hm'
        refine ⟨hp.1, hp.2, ?_⟩
        conv => whnf
        refine CallG.of (ok_doGive hs p.toNat (by omega)) ?_
        conv => whnf
        repeat' (first | exact True.intro | exact rfl | (refine FinG.done ?_; conv => whnf) | (refine And.intro ?_ ?_) | exact Nat.le_of_ble_eq_true rfl | (refine Two.no rfl ?_; conv => whnf) | (refine Two.yes rfl ?_; conv => whnf))
        conv => whnf
        exact row_eq (List.take_of_length_le (Nat.le_of_eq List.length_set)).symm
set_option maxHeartbeats 800000 in
theorem ok_changeSet (d : Bool) (hs : List HostV) (p : Int) (hl : hs.length ≤ 1048576) (hn : ∀ h ∈ hs, h.name.size ≤ 1048576) : Ok cx 46 [.one (.row elHost hs), vi p, .one (.fn 51 [0]), .one (.fn 52 [0])] [⟨4, [.val (.bool d)], true⟩] []
    [.one (.row elHost (cond (mayAt (fun h => h.down != d) hs p) (hs.set p.toNat { hs.getD p.toNat hz with down := d }) hs)), .one (.val (.bool (mayAt (fun h => h.down != d) hs p)))] [⟨4, [.val (.bool d)], true⟩] [] := by
  generalize hm : mayAt (fun h => h.down != d) hs p = m
  refine Ok_of_vc (C := cx) cx_ok cx_mix (fn := Try.f46) rfl (by kernel_rfl) rfl (Nat.le_of_ble_eq_true (by kernel_rfl)) ?_
  conv => whnf
  refine CallG.of (ok_clone' (List.take_length (l := hs)) hl) ?_
  conv => whnf
  refine CallG.of (ok_hostsOk2 (List.take_length (l := hs)) hl hn) ?_
  conv => whnf
  refine ⟨fun h1 => ?_, fun h1 => ?_⟩ <;> conv => whnf
  · have h1' : hostsOk hs = false := by
      have : (!(hostsOk hs)) = true := h1
      simpa using this
    have hm' : m = false := by rw [← hm]; simp only [mayAt, h1', Bool.false_and]
    subst hm'
    refine ⟨fun _ => ?_, fun h => Bool.noConfusion h⟩
    conv => whnf
    refine ⟨fun _ => ?_, fun h => Bool.noConfusion h⟩
    conv => whnf
    repeat' (first | exact True.intro | exact rfl | (refine FinG.done ?_; conv => whnf) | (refine And.intro ?_ ?_) | exact Nat.le_of_ble_eq_true rfl | (refine Two.no rfl ?_; conv => whnf) | (refine Two.yes rfl ?_; conv => whnf))
    conv => whnf
    exact row_eq (List.take_length (l := hs)).symm
  · have h1' : hostsOk hs = true := by
      have : (!(hostsOk hs)) = false := h1
      simpa using this
    refine CallG.of (ok_in _ _ _) ?_
    conv => whnf
    refine ⟨fun h2 => ?_, fun h2 => ?_⟩ <;> conv => whnf
    · have h2' : inB p 0 (IntKind.i64.wrap (hs.length - 1)) = false := by
        have : (!(inB p 0 (IntKind.i64.wrap (hs.length - 1)))) = true := h2
        simpa using this
      have hm' : m = false := by rw [← hm]; simp only [mayAt, h1', h2', Bool.false_and, Bool.true_and]
      subst hm'
      refine ⟨fun _ => ?_, fun h => Bool.noConfusion h⟩
      conv => whnf
      repeat' (first | exact True.intro | exact rfl | (refine FinG.done ?_; conv => whnf) | (refine And.intro ?_ ?_) | exact Nat.le_of_ble_eq_true rfl | (refine Two.no rfl ?_; conv => whnf) | (refine Two.yes rfl ?_; conv => whnf))
      conv => whnf
      exact row_eq (List.take_length (l := hs)).symm
    · have h2' : inB p 0 (IntKind.i64.wrap (hs.length - 1)) = true := by
        have : (!(inB p 0 (IntKind.i64.wrap (hs.length - 1)))) = false := h2
        simpa using this
      have hw : IntKind.i64.wrap ((hs.length : Int) - 1) = hs.length - 1 := wrap_id (by omega) (by omega)
      have hp : 0 ≤ p ∧ p < hs.length := by
        rw [hw] at h2'
        simp only [inB, Bool.and_eq_true, decide_eq_true_eq] at h2'
        omega
      refine ⟨hp.1, hp.2, ?_⟩
      conv => whnf
      refine CallG.of (ok_maySet d (hs.getD p.toNat hz)) ?_
      conv => whnf
      refine ⟨fun h3 => ?_, fun h3 => ?_⟩ <;> conv => whnf
      · have h3' : ((hs.getD p.toNat hz).down != d) = false := by
          have : (!((hs.getD p.toNat hz).down != d)) = true := h3
          rwa [Bool.not_eq_true'] at this
        have hm' : m = false := by rw [← hm]; simp only [mayAt, h1', h2', h3', Bool.true_and]
        subst hm'
        repeat' (first | exact True.intro | exact rfl | (refine FinG.done ?_; conv => whnf) | (refine And.intro ?_ ?_) | exact Nat.le_of_ble_eq_true rfl | (refine Two.no rfl ?_; conv => whnf) | (refine Two.yes rfl ?_; conv => whnf))
        conv => whnf
        exact row_eq (List.take_length (l := hs)).symm
      · have h3' : ((hs.getD p.toNat hz).down != d) = true := by
          have : (!((hs.getD p.toNat hz).down != d)) = false := h3
          rwa [Bool.not_eq_false'] at this
        have hm' : m = true := by rw [← hm]; simp only [mayAt, h1', h2', h3', Bool.true_and]
        subst hm'
        refine ⟨hp.1, hp.2, ?_⟩
        conv => whnf
        refine CallG.of (ok_doSet d hs p.toNat (by omega)) ?_
        conv => whnf
        repeat' (first | exact True.intro | exact rfl | (refine FinG.done ?_; conv => whnf) | (refine And.intro ?_ ?_) | exact Nat.le_of_ble_eq_true rfl | (refine Two.no rfl ?_; conv => whnf) | (refine Two.yes rfl ?_; conv => whnf))
        conv => whnf
        exact row_eq (List.take_of_length_le (Nat.le_of_eq List.length_set)).symm
end Go.Proofs.Ytjmhffbenbiieaa.Ev
