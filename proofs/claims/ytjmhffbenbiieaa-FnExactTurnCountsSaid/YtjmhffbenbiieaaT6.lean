import Derived.Test.YtjmhffbenbiieaaT5
set_option linter.unusedVariables false
set_option linter.unusedSimpArgs false
namespace Go.Proofs.Ytjmhffbenbiieaa.Ev
open Go.RowKit

theorem ok_contains' {ys xs : List HostV} (e : ys = xs) (h : HostV) (hl : xs.length ≤ 1048576) : Ok cx 43 [.one (.row elHost ys), .one (.fn 44 [0])] [⟨41, h.ocells, true⟩] [] [.one (.val (.bool (xs.any fun x => sameN x h)))] [⟨41, h.ocells, true⟩] [] := by
  subst e; exact ok_contains _ h hl
def hz : HostV := ⟨⟨#[]⟩, 0, 0, 0, false⟩
def good (hs : List HostV) (i : Nat) : Bool := (hs.getD i hz).ok && !((hs.take i).any fun x => sameN x (hs.getD i hz))
def upto (hs : List HostV) (i : Nat) : Bool := (List.range i).all (good hs)
def hostsOk (hs : List HostV) : Bool := inB hs.length 1 8 && upto hs hs.length
theorem upto_succ (hs : List HostV) (i : Nat) : upto hs (i + 1) = (upto hs i && good hs i) := by
  simp [upto, List.range_succ, List.all_append]
theorem upto_bad {hs : List HostV} {i n : Nat} (hi : i < n) (hg : good hs i = false) : upto hs n = false := by
  cases hq : upto hs n with
  | false => rfl
  | true =>
    have := List.all_eq_true.1 hq i (List.mem_range.2 hi)
    rw [hg] at this; cases this
theorem ok_hostsOk (hs : List HostV) (hl : hs.length ≤ 1048576) (hn : ∀ h ∈ hs, h.name.size ≤ 1048576) : Ok cx 23 [.one (.row elHost hs)] [] [] [.one (.val (.bool (hostsOk hs)))] [] [] := by
  refine Ok_of_vc (C := cx) cx_ok cx_mix (fn := Try.f23) rfl (by kernel_rfl) rfl (Nat.le_of_ble_eq_true (by kernel_rfl)) ?_
  conv => whnf
  refine CallG.of (ok_in _ _ _) ?_
  conv => whnf
  refine ⟨fun h1 => ?_, fun h1 => ?_⟩ <;> conv => whnf
  · repeat' (first | exact True.intro | exact rfl | (refine FinG.done ?_; conv => whnf) | (refine And.intro ?_ ?_) | exact Nat.le_of_ble_eq_true rfl | (refine Two.no rfl ?_; conv => whnf) | (refine Two.yes rfl ?_; conv => whnf))
    conv => whnf
    have h1' : inB hs.length 1 8 = false := by
      have : (!(inB hs.length 1 8)) = true := h1
      simpa using this
    simp only [hostsOk, h1', Bool.false_and]
  · have h1' : inB hs.length 1 8 = true := by
      have : (!(inB hs.length 1 8)) = false := h1
      simpa using this
    refine ⟨Nat, fun i => i ≤ hs.length ∧ upto hs i = true, fun i => hs.length - i,
      fun i => { sl := [(0, .pv (.one (.ref 0 hs.length))), (2, .pv (.one (.val (.bool false)))), (9, .pv (.one (.ref 0 hs.length))), (10, .pv (.one (.val (.int .i64 hs.length)))), (11, .pv (.one (.val (.int .i64 i))))], rw := [(0, ⟨false, elHost, hs⟩)], ob := [], nx := 1, po := [], pr := [] },
      0, ⟨Nat.zero_le _, rfl⟩, ?_, fun i hi => ?_⟩
    · repeat' (first | exact True.intro | exact rfl | (refine FinG.done ?_; conv => whnf) | (refine And.intro ?_ ?_) | exact Nat.le_of_ble_eq_true rfl | (refine Two.no rfl ?_; conv => whnf) | (refine Two.yes rfl ?_; conv => whnf))
    · conv => whnf
      refine ⟨fun h2 => ?_, fun h2 => ?_⟩ <;> conv => whnf
      · have hlt : i < hs.length := by simpa using h2
        have hmem : hs.getD i hz ∈ hs := by rw [List.getD_eq_getElem?_getD, List.getElem?_eq_getElem hlt]; exact List.getElem_mem hlt
        refine ⟨Int.natCast_nonneg _, by simpa using hlt, ?_⟩
        conv => whnf
        refine CallG.of (ok_hostOk (hs.getD i hz) (hn _ hmem)) ?_
        conv => whnf
        refine ⟨fun h3 => ?_, fun h3 => ?_⟩ <;> conv => whnf
        · have h3' : (hs.getD i hz).ok = false := by
            have : (!((hs.getD i hz).ok)) = true := h3
            simpa using this
          refine ⟨fun _ => ?_, fun h => Bool.noConfusion h⟩
          conv => whnf
          repeat' (first | exact True.intro | exact rfl | (refine FinG.done ?_; conv => whnf) | (refine And.intro ?_ ?_) | exact Nat.le_of_ble_eq_true rfl | (refine Two.no rfl ?_; conv => whnf) | (refine Two.yes rfl ?_; conv => whnf))
          conv => whnf
          rw [hostsOk, upto_bad hlt (by simp only [good, h3', Bool.false_and]), Bool.and_false]
        · have h3' : (hs.getD i hz).ok = true := by
            have : (!((hs.getD i hz).ok)) = false := h3
            simpa using this
          refine ⟨⟨Int.natCast_nonneg _, Int.ofNat_le.2 (Nat.le_of_lt hlt)⟩, ?_⟩
          conv => whnf
          refine CallG.of (ok_contains' (xs := hs.take i) rfl (hs.getD i hz) (by rw [List.length_take]; omega)) ?_
          conv => whnf
          refine ⟨fun h4 => ?_, fun h4 => ?_⟩ <;> conv => whnf
          · have h4' : ((hs.take i).any fun x => sameN x (hs.getD i hz)) = true := h4
            repeat' (first | exact True.intro | exact rfl | (refine FinG.done ?_; conv => whnf) | (refine And.intro ?_ ?_) | exact Nat.le_of_ble_eq_true rfl | (refine Two.no rfl ?_; conv => whnf) | (refine Two.yes rfl ?_; conv => whnf))
            conv => whnf
            rw [hostsOk, upto_bad hlt (by simp only [good, h4', Bool.not_true, Bool.and_false]), Bool.and_false]
          · have h4' : ((hs.take i).any fun x => sameN x (hs.getD i hz)) = false := h4
            refine ⟨i + 1, ⟨⟨hlt, by rw [upto_succ, hi.2]; simp only [good, h3', h4', Bool.not_false, Bool.and_true]⟩, show hs.length - (i + 1) < hs.length - i by omega⟩, ?_⟩
            repeat' (first | exact True.intro | exact rfl | (refine FinG.done ?_; conv => whnf) | (refine And.intro ?_ ?_) | exact Nat.le_of_ble_eq_true rfl | (refine Two.no rfl ?_; conv => whnf) | (refine Two.yes rfl ?_; conv => whnf))
            conv => whnf
            rw [wrap_id (by omega) (by omega)]; rfl
      · have hge : ¬ (i : Int) < hs.length := by simpa using h2
        have hi' : i = hs.length := by have := hi.1; omega
        have hu := hi.2
        rw [hi'] at hu
        repeat' (first | exact True.intro | exact rfl | (refine FinG.done ?_; conv => whnf) | (refine And.intro ?_ ?_) | exact Nat.le_of_ble_eq_true rfl | (refine Two.no rfl ?_; conv => whnf) | (refine Two.yes rfl ?_; conv => whnf))
        conv => whnf
        rw [hostsOk, h1', hu]; rfl
theorem take_any {l : List HostV} {i : Nat} {p : HostV → Bool} (z : HostV) (hi : i < l.length) : (l.take (i + 1)).any p = ((l.take i).any p || p (l.getD i z)) := by
  rw [List.take_add_one, List.any_append]
  simp [List.getElem?_eq_getElem hi, List.getD_eq_getElem?_getD]
theorem take_any_mem {l : List HostV} {i j : Nat} {p : HostV → Bool} (z : HostV) (hj : j < i) (hi : i < l.length) (h : p (l.getD j z) = true) : (l.take i).any p = true := by
  rw [List.any_eq_true]
  refine ⟨l.getD j z, ?_, h⟩
  have : (l.take i)[j]? = some (l.getD j z) := by
    rw [List.getElem?_take, if_pos hj]; exact getD_get l j z (by omega)
  exact List.mem_of_getElem? this
theorem ok_specHostsOk (hs : List HostV) (hl : hs.length ≤ 1048576) (hn : ∀ h ∈ hs, h.name.size ≤ 1048576) : Ok cx 20 [.one (.row elHost hs)] [] [] [.one (.val (.bool (hostsOk hs)))] [] [] := by
  refine Ok_of_vc (C := cx) cx_ok cx_mix (fn := Try.f20) rfl (by kernel_rfl) rfl (Nat.le_of_ble_eq_true (by kernel_rfl)) ?_
  conv => whnf
  refine CallG.of (ok_in52 _ _ _) ?_
  conv => whnf
  refine ⟨fun h1 => ?_, fun h1 => ?_⟩ <;> conv => whnf
  · repeat' (first | exact True.intro | exact rfl | (refine FinG.done ?_; conv => whnf) | (refine And.intro ?_ ?_) | exact Nat.le_of_ble_eq_true rfl | (refine Two.no rfl ?_; conv => whnf) | (refine Two.yes rfl ?_; conv => whnf))
    conv => whnf
    have h1' : inB hs.length 1 8 = false := by
      have : (!(inB hs.length 1 8)) = true := h1
      simpa using this
    simp only [hostsOk, h1', Bool.false_and]
  · have h1' : inB hs.length 1 8 = true := by
      have : (!(inB hs.length 1 8)) = false := h1
      simpa using this
    refine ⟨Nat, fun i => i ≤ hs.length ∧ upto hs i = true, fun i => hs.length - i,
      fun i => { sl := [(0, .pv (.one (.ref 0 hs.length))), (2, .pv (.one (.val (.bool false)))), (3, .pv (.one (.val (.int .i64 i))))], rw := [(0, ⟨false, elHost, hs⟩)], ob := [], nx := 1, po := [], pr := [] },
      0, ⟨Nat.zero_le _, rfl⟩, ?_, fun i hi => ?_⟩
    · repeat' (first | exact True.intro | exact rfl | (refine FinG.done ?_; conv => whnf) | (refine And.intro ?_ ?_) | exact Nat.le_of_ble_eq_true rfl | (refine Two.no rfl ?_; conv => whnf) | (refine Two.yes rfl ?_; conv => whnf))
    · conv => whnf
      refine ⟨fun h2 => ?_, fun h2 => ?_⟩ <;> conv => whnf
      · have hlt : i < hs.length := by simpa using h2
        have hmem : hs.getD i hz ∈ hs := by rw [List.getD_eq_getElem?_getD, List.getElem?_eq_getElem hlt]; exact List.getElem_mem hlt
        refine ⟨Int.natCast_nonneg _, by simpa using hlt, ?_⟩
        conv => whnf
        refine CallG.of (ok_l16Host (hs.getD i hz) (hn _ hmem)) ?_
        conv => whnf
        refine ⟨fun h3 => ?_, fun h3 => ?_⟩ <;> conv => whnf
        · have h3' : (hs.getD i hz).ok = false := by
            have : (!((hs.getD i hz).ok)) = true := h3
            simpa using this
          repeat' (first | exact True.intro | exact rfl | (refine FinG.done ?_; conv => whnf) | (refine And.intro ?_ ?_) | exact Nat.le_of_ble_eq_true rfl | (refine Two.no rfl ?_; conv => whnf) | (refine Two.yes rfl ?_; conv => whnf))
          conv => whnf
          rw [hostsOk, upto_bad hlt (by simp only [good, h3', Bool.false_and]), Bool.and_false]
        · have h3' : (hs.getD i hz).ok = true := by
            have : (!((hs.getD i hz).ok)) = false := h3
            simpa using this
          refine ⟨Nat, fun j => j ≤ i ∧ ((hs.take j).any fun x => sameN x (hs.getD i hz)) = false, fun j => i - j,
            fun j => { sl := [(0, .pv (.one (.ref 0 hs.length))), (2, .pv (.one (.val (.bool false)))), (3, .pv (.one (.val (.int .i64 i)))), (4, .pv (.one (.val (.int .i64 j))))], rw := [(0, ⟨false, elHost, hs⟩)], ob := [], nx := 1, po := [], pr := [] },
            0, ⟨Nat.zero_le _, rfl⟩, ?_, fun j hj => ?_⟩
          · repeat' (first | exact True.intro | exact rfl | (refine FinG.done ?_; conv => whnf) | (refine And.intro ?_ ?_) | exact Nat.le_of_ble_eq_true rfl | (refine Two.no rfl ?_; conv => whnf) | (refine Two.yes rfl ?_; conv => whnf))
          · conv => whnf
            refine ⟨fun h4 => ?_, fun h4 => ?_⟩ <;> conv => whnf
            · have hjt : j < i := by simpa using h4
              refine DrawG.q (by kernel_rfl) ?_
              conv => whnf
              refine ⟨Int.natCast_nonneg _, Int.ofNat_lt.2 (Nat.lt_trans hjt hlt), ?_⟩
              conv => whnf
              refine ⟨Int.natCast_nonneg _, Int.ofNat_lt.2 hlt, ?_⟩
              conv => whnf
              refine ⟨fun h5 => ?_, fun h5 => ?_⟩ <;> conv => whnf
              · have h5' : sameN (hs.getD j hz) (hs.getD i hz) = true := h5
                repeat' (first | exact True.intro | exact rfl | (refine FinG.done ?_; conv => whnf) | (refine And.intro ?_ ?_) | exact Nat.le_of_ble_eq_true rfl | (refine Two.no rfl ?_; conv => whnf) | (refine Two.yes rfl ?_; conv => whnf))
                conv => whnf
                rw [hostsOk, upto_bad hlt (by simp only [good, take_any_mem (p := fun x => sameN x (hs.getD i hz)) hz hjt hlt h5', Bool.not_true, Bool.and_false]), Bool.and_false]
              · have h5' : sameN (hs.getD j hz) (hs.getD i hz) = false := h5
                refine ⟨j + 1, ⟨⟨hjt, by rw [take_any hz (by omega), hj.2, h5']; rfl⟩, show i - (j + 1) < i - j by omega⟩, ?_⟩
                repeat' (first | exact True.intro | exact rfl | (refine FinG.done ?_; conv => whnf) | (refine And.intro ?_ ?_) | exact Nat.le_of_ble_eq_true rfl | (refine Two.no rfl ?_; conv => whnf) | (refine Two.yes rfl ?_; conv => whnf))
                conv => whnf
                rw [wrap_id (by omega) (by omega)]; rfl
            · have hge : ¬ (j : Int) < i := by simpa using h4
              have hj' : j = i := by have := hj.1; omega
              have hu := hj.2
              rw [hj'] at hu
              refine ⟨i + 1, ⟨⟨hlt, by rw [upto_succ, hi.2]; simp only [good, h3', hu, Bool.not_false, Bool.and_true]⟩, show hs.length - (i + 1) < hs.length - i by omega⟩, ?_⟩
              repeat' (first | exact True.intro | exact rfl | (refine FinG.done ?_; conv => whnf) | (refine And.intro ?_ ?_) | exact Nat.le_of_ble_eq_true rfl | (refine Two.no rfl ?_; conv => whnf) | (refine Two.yes rfl ?_; conv => whnf))
              conv => whnf
              rw [wrap_id (by omega) (by omega)]; rfl
      · have hge : ¬ (i : Int) < hs.length := by simpa using h2
        have hi' : i = hs.length := by have := hi.1; omega
        have hu := hi.2
        rw [hi'] at hu
        repeat' (first | exact True.intro | exact rfl | (refine FinG.done ?_; conv => whnf) | (refine And.intro ?_ ?_) | exact Nat.le_of_ble_eq_true rfl | (refine Two.no rfl ?_; conv => whnf) | (refine Two.yes rfl ?_; conv => whnf))
        conv => whnf
        rw [hostsOk, h1', hu]; rfl
end Go.Proofs.Ytjmhffbenbiieaa.Ev
