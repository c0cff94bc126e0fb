import Derived.Test.YtjmhffbenbiieaaT2
set_option linter.unusedVariables false
set_option linter.unusedSimpArgs false
namespace Go.Proofs.Ytjmhffbenbiieaa.Ev
open Go.RowKit

def HostV.rcells (h : HostV) : List RC1 := [.val (.string h.name), .val (.int .i64 h.weight), .val (.int .i64 h.busy), .val (.int .i64 h.room), .val (.bool h.down)]
def szH (h : HostV) (left : Int) : Int := if left - h.name.size < 0 then -1 else left - h.name.size
theorem ok_szHost (h : HostV) (left : Int) (h0 : 0 ≤ left) (h1 : left ≤ 1048576) (hn : h.name.size ≤ 9223372036854775807) : Ok cx 18 [.agg h.cells, vi left] [] [] [.one (.val (.int .i64 (szH h left)))] [] [] := by
  refine Ok_of_vc (C := cx) cx_ok cx_mix (fn := Try.f18) rfl (by kernel_rfl) rfl (Nat.le_of_ble_eq_true (by kernel_rfl)) ?_
  conv => whnf
  have hw : IntKind.i64.wrap (left - h.name.size) = left - h.name.size := wrap_id (by omega) (by omega)
  refine ⟨fun hh => ?_, fun hh => ?_⟩ <;> conv => whnf
  · repeat' (first | exact True.intro | exact rfl | (refine FinG.done ?_; conv => whnf) | (refine And.intro ?_ ?_) | exact Nat.le_of_ble_eq_true rfl | (refine Two.no rfl ?_; conv => whnf) | (refine Two.yes rfl ?_; conv => whnf))
    conv => whnf
    rw [hw] at hh
    simp only [decide_eq_true_eq] at hh
    simp only [szH, hh, if_true]
  · repeat' (first | exact True.intro | exact rfl | (refine FinG.done ?_; conv => whnf) | (refine And.intro ?_ ?_) | exact Nat.le_of_ble_eq_true rfl | (refine Two.no rfl ?_; conv => whnf) | (refine Two.yes rfl ?_; conv => whnf))
    conv => whnf
    rw [hw] at hh ⊢
    simp only [decide_eq_false_iff_not] at hh
    simp only [szH, hh, if_false]
def szL : List HostV → Int → Int
  | [], l => l
  | h :: t, l => if szH h l < 0 then -1 else szL t (szH h l)
def szS (hs : List HostV) (left : Int) : Int := if left - hs.length < 0 then -1 else szL hs (left - hs.length)
theorem szH_le (h : HostV) {l : Int} : szH h l ≤ l ∨ szH h l = -1 := by
  unfold szH; split <;> omega
theorem ok_szHostS (hs : List HostV) (left : Int) (h0 : 0 ≤ left) (h1 : left ≤ 1048576) (hl : hs.length ≤ 9223372036854775807) (hn : ∀ h ∈ hs, h.name.size ≤ 9223372036854775807) : Ok cx 5 [.one (.row elHostL hs), vi left] [] [] [.one (.val (.int .i64 (szS hs left)))] [] [] := by
  refine Ok_of_vc (C := cx) cx_ok cx_mix (fn := Try.f5) rfl (by kernel_rfl) rfl (Nat.le_of_ble_eq_true (by kernel_rfl)) ?_
  conv => whnf
  have hw : IntKind.i64.wrap (left - hs.length) = left - hs.length := wrap_id (by omega) (by omega)
  refine ⟨fun hh => ?_, fun hh => ?_⟩ <;> conv => whnf
  · repeat' (first | exact True.intro | exact rfl | (refine FinG.done ?_; conv => whnf) | (refine And.intro ?_ ?_) | exact Nat.le_of_ble_eq_true rfl | (refine Two.no rfl ?_; conv => whnf) | (refine Two.yes rfl ?_; conv => whnf))
    conv => whnf
    rw [hw] at hh
    simp only [decide_eq_true_eq] at hh
    simp only [szS, hh, if_true]
  · rw [hw] at hh
    simp only [decide_eq_false_iff_not] at hh
    refine ⟨Nat × Int, fun x => (x.1 ≤ hs.length ∧ 0 ≤ x.2 ∧ x.2 ≤ 1048576) ∧ szL (hs.drop x.1) x.2 = szS hs left, fun x => hs.length - x.1,
      fun x => { sl := [(0, .pv (.one (.ref 0 hs.length))), (1, .pv (.one (.val (.int .i64 x.2)))), (4, .pv (.one (.val (.int .i64 0)))), (5, .pv (.one (.val (.int .i64 x.1))))], rw := [(0, ⟨false, elHostL, hs⟩)], ob := [], nx := 1, po := [], pr := [] },
      (0, left - hs.length), ⟨⟨Nat.zero_le _, by omega, by omega⟩, ?_⟩, ?_, fun x hx => ?_⟩
    · simp only [List.drop_zero, szS, hh, if_false]
    · repeat' (first | exact True.intro | exact rfl | (refine FinG.done ?_; conv => whnf) | (refine And.intro ?_ ?_) | exact Nat.le_of_ble_eq_true rfl | (refine Two.no rfl ?_; conv => whnf) | (refine Two.yes rfl ?_; conv => whnf))
      conv => whnf
      rw [hw]
    · conv => whnf
      obtain ⟨i, l⟩ := x
      obtain ⟨⟨hi, hl0, hl1⟩, hx⟩ := hx
      dsimp only at hi hl0 hl1 hx
      refine ⟨fun h2 => ?_, fun h2 => ?_⟩ <;> conv => whnf
      · have hlt : i < hs.length := by simpa using h2
        have hd : hs.drop i = hs.getD i elHostL.zero :: hs.drop (i + 1) := by
          rw [List.drop_eq_getElem_cons hlt, List.getD_eq_getElem?_getD, List.getElem?_eq_getElem hlt]; rfl
        have hmem : hs.getD i elHostL.zero ∈ hs := by rw [List.getD_eq_getElem?_getD, List.getElem?_eq_getElem hlt]; exact List.getElem_mem hlt
        refine ⟨Int.natCast_nonneg _, by simpa using hlt, ?_⟩
        conv => whnf
        refine CallG.of (ok_szHost (hs.getD i elHostL.zero) l hl0 hl1 (hn _ hmem)) ?_
        conv => whnf
        have hsz := szH_le (hs.getD i elHostL.zero) (l := l)
        rw [hd, szL] at hx
        refine ⟨fun h3 => ?_, fun h3 => ?_⟩ <;> conv => whnf
        · repeat' (first | exact True.intro | exact rfl | (refine FinG.done ?_; conv => whnf) | (refine And.intro ?_ ?_) | exact Nat.le_of_ble_eq_true rfl | (refine Two.no rfl ?_; conv => whnf) | (refine Two.yes rfl ?_; conv => whnf))
          conv => whnf
          simp only [decide_eq_true_eq] at h3
          rw [if_pos h3] at hx
          rw [← hx]
        · simp only [decide_eq_false_iff_not] at h3
          have h3' : ¬ szH (hs.getD i elHostL.zero) l < 0 := h3
          have h4 : 0 ≤ szH (hs.getD i elHostL.zero) l ∧ szH (hs.getD i elHostL.zero) l ≤ 1048576 := by omega
          rw [if_neg h3'] at hx
          refine ⟨(i + 1, szH (hs.getD i elHostL.zero) l), ⟨⟨⟨hlt, h4.1, h4.2⟩, hx⟩, show hs.length - (i + 1) < hs.length - i by omega⟩, ?_⟩
          repeat' (first | exact True.intro | exact rfl | (refine FinG.done ?_; conv => whnf) | (refine And.intro ?_ ?_) | exact Nat.le_of_ble_eq_true rfl | (refine Two.no rfl ?_; conv => whnf) | (refine Two.yes rfl ?_; conv => whnf))
          conv => whnf
          rw [wrap_id (by omega) (by omega)]; rfl
      · repeat' (first | exact True.intro | exact rfl | (refine FinG.done ?_; conv => whnf) | (refine And.intro ?_ ?_) | exact Nat.le_of_ble_eq_true rfl | (refine Two.no rfl ?_; conv => whnf) | (refine Two.yes rfl ?_; conv => whnf))
        conv => whnf
        have hge : ¬ (i : Int) < hs.length := by simpa using h2
        rw [List.drop_of_length_le (by omega)] at hx
        rw [← hx]; rfl
end Go.Proofs.Ytjmhffbenbiieaa.Ev
