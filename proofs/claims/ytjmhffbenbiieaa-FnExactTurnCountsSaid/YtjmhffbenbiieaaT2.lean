import Derived.Test.YtjmhffbenbiieaaT1
set_option linter.unusedVariables false
set_option linter.unusedSimpArgs false
namespace Go.Proofs.Ytjmhffbenbiieaa.Ev
open Go.RowKit

def inB (a b c : Int) : Bool := decide (a ≥ b) && decide (a ≤ c)
def HostV.cells (h : HostV) : List AC1 := [.val (.string h.name), .val (.int .i64 h.weight), .val (.int .i64 h.busy), .val (.int .i64 h.room), .val (.bool h.down)]
def letter (c : UInt8) : Bool := decide (97 ≤ c.toNat) && decide (c.toNat ≤ 122)
def HostV.ok (h : HostV) : Bool := h.name.data.toList.all letter && (inB h.name.size 1 8 && (inB h.weight 1 20 && (inB h.room 1 100 && inB h.busy 0 h.room)))

theorem wrap_id {n : Int} (h1 : -9223372036854775808 ≤ n) (h2 : n ≤ 9223372036854775807) : IntKind.i64.wrap n = n := by
  rw [IntKind.wrap_i64]; omega
theorem size_eq (s : ByteArray) : s.data.toList.length = s.size := Array.length_toList
theorem HostV.ok_all {h : HostV} {i : Nat} (hi : h.name.size ≤ i) (ha : (h.name.data.toList.take i).all letter = true) : h.ok = (inB h.name.size 1 8 && (inB h.weight 1 20 && (inB h.room 1 100 && inB h.busy 0 h.room))) := by
  have := size_eq h.name
  rw [List.take_of_length_le (by omega)] at ha
  simp [HostV.ok, ha]
theorem take_all {l : List UInt8} {i : Nat} {p : UInt8 → Bool} (hi : i < l.length) : (l.take (i + 1)).all p = ((l.take i).all p && p (l.getD i 0)) := by
  rw [List.take_add_one, List.all_append]
  simp [List.getElem?_eq_getElem hi, List.getD_eq_getElem?_getD]
theorem HostV.ok_bad {h : HostV} {i : Nat} (hi : i < h.name.size) (ha : letter (h.name.data.toList.getD i 0) = false) : h.ok = false := by
  have hl := size_eq h.name
  have : h.name.data.toList.all letter = false := by
    cases hq : h.name.data.toList.all letter with
    | false => rfl
    | true =>
      rw [List.all_eq_true] at hq
      have hlt : i < h.name.data.toList.length := by omega
      have := hq (h.name.data.toList.getD i 0) (by rw [List.getD_eq_getElem?_getD, List.getElem?_eq_getElem hlt]; exact List.getElem_mem hlt)
      rw [ha] at this; cases this
  simp [HostV.ok, this]
theorem ok_hostOk (h : HostV) (hn : h.name.size ≤ 1048576) : Ok cx 42 [.agg h.cells] [] [] [.one (.val (.bool h.ok))] [] [] := by
  refine Ok_of_vc (C := cx) cx_ok cx_mix (fn := Try.f42) rfl (by kernel_rfl) rfl (Nat.le_of_ble_eq_true (by kernel_rfl)) ?_
  conv => whnf
  refine ⟨Nat, fun i => i ≤ h.name.size ∧ (h.name.data.toList.take i).all letter = true, fun i => h.name.size - i,
    fun i => { sl := [(1, .pv (.one (.ptr 0 0))), (2, .pv (.one (.val (.bool false)))), (7, .pv (.one (.val (.int .i64 h.name.size)))), (8, .pv (.one (.val (.int .i64 i))))], rw := [], ob := [(0, ⟨41, [.val (.string h.name), .val (.int .i64 h.weight), .val (.int .i64 h.busy), .val (.int .i64 h.room), .val (.bool h.down)], true⟩)], nx := 1, po := [], pr := [] }, 0, ⟨Nat.zero_le _, rfl⟩, ?_, fun i hi => ?_⟩
  · repeat' (first | exact True.intro | exact rfl | (refine FinG.done ?_; conv => whnf) | (refine And.intro ?_ ?_) | exact Nat.le_of_ble_eq_true rfl | (refine Two.no rfl ?_; conv => whnf) | (refine Two.yes rfl ?_; conv => whnf))
  · have hl := size_eq h.name
    conv => whnf
    refine ⟨fun hlt => ?_, fun hge => ?_⟩ <;> conv => whnf
    · have hlt' : i < h.name.size := by simpa using hlt
      refine ⟨by omega, by simpa using hlt, fun h1 => ?_, fun h1 => ?_⟩ <;> conv => whnf
      · refine ⟨fun _ => ?_, fun h => nomatch h⟩
        conv => whnf
        repeat' (first | exact True.intro | exact rfl | (refine FinG.done ?_; conv => whnf) | (refine And.intro ?_ ?_) | exact Nat.le_of_ble_eq_true rfl | (refine Two.no rfl ?_; conv => whnf) | (refine Two.yes rfl ?_; conv => whnf))
        conv => whnf
        rw [HostV.ok_bad hlt']
        simp only [Int.toNat_natCast, decide_eq_true_eq] at h1
        simp only [letter, Bool.and_eq_false_iff, decide_eq_false_iff_not]; omega
      · refine ⟨fun h2 => ?_, fun h2 => ?_⟩ <;> conv => whnf
        · repeat' (first | exact True.intro | exact rfl | (refine FinG.done ?_; conv => whnf) | (refine And.intro ?_ ?_) | exact Nat.le_of_ble_eq_true rfl | (refine Two.no rfl ?_; conv => whnf) | (refine Two.yes rfl ?_; conv => whnf))
          conv => whnf
          rw [HostV.ok_bad hlt']
          simp only [Int.toNat_natCast, cond_false, decide_eq_true_eq] at h2
          simp only [letter, Bool.and_eq_false_iff, decide_eq_false_iff_not]; omega
        · refine ⟨i + 1, ⟨⟨hlt', ?_⟩, show h.name.size - (i + 1) < h.name.size - i by omega⟩, ?_⟩
          · rw [take_all (by omega), hi.2]
            simp only [Int.toNat_natCast, cond_false, decide_eq_false_iff_not] at h1 h2
            simp only [letter, Bool.true_and, Bool.and_eq_true, decide_eq_true_eq]; omega
          · repeat' (first | exact True.intro | exact rfl | (refine FinG.done ?_; conv => whnf) | (refine And.intro ?_ ?_) | exact Nat.le_of_ble_eq_true rfl | (refine Two.no rfl ?_; conv => whnf) | (refine Two.yes rfl ?_; conv => whnf))
            conv => whnf
            rw [wrap_id (by omega) (by omega)]; rfl
    · have hall := HostV.ok_all (h := h) (i := i) (by simpa using hge) hi.2
      refine CallG.of (ok_in _ _ _) ?_
      conv => whnf
      refine ⟨fun h1 => ?_, fun h1 => ?_⟩ <;> conv => whnf
      · refine CallG.of (ok_in _ _ _) ?_
        conv => whnf
        refine ⟨fun h2 => ?_, fun h2 => ?_⟩ <;> conv => whnf
        · refine CallG.of (ok_in _ _ _) ?_
          conv => whnf
          refine ⟨fun h3 => ?_, fun h3 => ?_⟩ <;> conv => whnf
          · refine CallG.of (ok_in _ _ _) ?_
            conv => whnf
            repeat' (first | exact True.intro | exact rfl | (refine FinG.done ?_; conv => whnf) | (refine And.intro ?_ ?_) | exact Nat.le_of_ble_eq_true rfl | (refine Two.no rfl ?_; conv => whnf) | (refine Two.yes rfl ?_; conv => whnf))
            conv => whnf
            simp only [cond_true] at h2 h3
            simp only [hall, inB, h1, h2, h3, Bool.true_and]; rfl
          · repeat' (first | exact True.intro | exact rfl | (refine FinG.done ?_; conv => whnf) | (refine And.intro ?_ ?_) | exact Nat.le_of_ble_eq_true rfl | (refine Two.no rfl ?_; conv => whnf) | (refine Two.yes rfl ?_; conv => whnf))
            conv => whnf
            simp only [cond_true] at h2 h3
            simp only [hall, inB, h1, h2, h3, Bool.true_and, Bool.false_and]
        · repeat' (first | exact True.intro | exact rfl | (refine FinG.done ?_; conv => whnf) | (refine And.intro ?_ ?_) | exact Nat.le_of_ble_eq_true rfl | (refine Two.no rfl ?_; conv => whnf) | (refine Two.yes rfl ?_; conv => whnf))
          conv => whnf
          simp only [cond_true] at h2
          simp only [hall, inB, h1, h2, Bool.true_and, Bool.false_and]
      · repeat' (first | exact True.intro | exact rfl | (refine FinG.done ?_; conv => whnf) | (refine And.intro ?_ ?_) | exact Nat.le_of_ble_eq_true rfl | (refine Two.no rfl ?_; conv => whnf) | (refine Two.yes rfl ?_; conv => whnf))
        conv => whnf
        simp only [hall, inB, h1, Bool.false_and]
end Go.Proofs.Ytjmhffbenbiieaa.Ev
