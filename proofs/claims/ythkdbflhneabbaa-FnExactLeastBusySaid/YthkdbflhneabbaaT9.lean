import Derived.Test.YthkdbflhneabbaaT8
set_option linter.unusedVariables false
set_option linter.unusedSimpArgs false
namespace Go.Proofs.Ythkdbflhneabbaa.Ev
open Go.RowKit

def lbStep (hs : List HostV) (b : Int) (i : Nat) : Int :=
  cond ((hs.getD i hz).down || ((hs.getD i hz).busy == (hs.getD i hz).room)) b
    (cond (decide (b < 0) || decide (IntKind.i64.wrap ((hs.getD i hz).busy * (hs.getD b.toNat hz).weight) < IntKind.i64.wrap ((hs.getD b.toNat hz).busy * (hs.getD i hz).weight))) (i : Int) b)
def lbTo (hs : List HostV) (i : Nat) : Int := (List.range i).foldl (lbStep hs) (-1)
theorem lbTo_succ (hs : List HostV) (i : Nat) : lbTo hs (i + 1) = lbStep hs (lbTo hs i) i := by
  simp only [lbTo, List.range_succ, List.foldl_append, List.foldl_cons, List.foldl_nil]
def leastOf (hs : List HostV) : Int := cond (hostsOk hs) (lbTo hs hs.length) (-1)
theorem ok_least (hs : List HostV) (hl : hs.length ≤ 1048576) (hn : ∀ h ∈ hs, h.name.size ≤ 1048576) : Ok Try.prog 28 [.one (.row elHost hs)] [] [] [.one (.val (.int .i64 (leastOf hs)))] [] [] := by
  refine Ok_of_vc (C := cx) cx_ok cx_mix (fn := Try.f28) rfl (by kernel_rfl) rfl (Nat.le_of_ble_eq_true (by kernel_rfl)) ?_
  conv => whnf
  refine ⟨by repeat' (first | exact True.intro | (refine And.intro ?_ ?_)), _, _, _, ok_hostsOk' (List.take_length (l := hs)) hl hn, ?_⟩
  conv => whnf
  refine ⟨fun h1 => ?_, fun h1 => ?_⟩ <;> conv => whnf
  · have h1' : hostsOk hs = false := by
      have : (!(hostsOk hs)) = true := h1
      simpa using this
    repeat' (first | exact True.intro | exact rfl | (refine And.intro ?_ ?_) | exact Nat.le_of_ble_eq_true rfl)
    conv => whnf
    simp only [leastOf, h1', cond_false]
  · have h1' : hostsOk hs = true := by
      have : (!(hostsOk hs)) = false := h1
      simpa using this
    refine ⟨Nat × Int, fun x => x.1 ≤ hs.length ∧ x.2 = lbTo hs x.1 ∧ x.2 < hs.length, fun x => hs.length - x.1,
      fun x => { sl := [(0, .pv (.one (.ref 0 hs.length))), (2, .pv (.one (.val (.int .i64 0)))), (3, .pv (.one (.val (.int .i64 x.2)))), (9, .pv (.one (.ref 0 hs.length))), (10, .pv (.one (.val (.int .i64 hs.length)))), (11, .pv (.one (.val (.int .i64 x.1))))], rw := [(0, ⟨false, elHost, hs⟩)], ob := [], nx := 1, po := [], pr := [] },
      (0, -1), ⟨Nat.zero_le _, rfl, by show (-1 : Int) < (hs.length : Int); omega⟩, ?_, fun x hx => ?_⟩
    · repeat' (first | exact True.intro | exact rfl | (refine And.intro ?_ ?_) | exact Nat.le_of_ble_eq_true rfl)
    · obtain ⟨i, b⟩ := x
      obtain ⟨hi, hb, hbn⟩ := hx
      dsimp only at hi hb hbn
      conv => whnf
      refine ⟨fun h2 => ?_, fun h2 => ?_⟩ <;> conv => whnf
      · have hlt : i < hs.length := by simpa using h2
        have hbn' : ((i : Nat) : Int) < hs.length := by omega
        have hs1 := lbTo_succ hs i
        rw [← hb] at hs1
        refine ⟨Int.natCast_nonneg _, by simpa using hlt, ?_⟩
        conv => whnf
        refine ⟨fun h3 => ?_, fun h3 => ?_⟩ <;> conv => whnf
        · have h3' : (hs.getD i hz).down = true := h3
          refine ⟨fun _ => ?_, fun h => Bool.noConfusion h⟩
          conv => whnf
          have hn1 : b = lbTo hs (i + 1) := by rw [hs1]; simp only [lbStep, h3', Bool.true_or, cond_true]
          refine ⟨(i + 1, b), ⟨⟨hlt, hn1, hbn⟩, show hs.length - (i + 1) < hs.length - i by omega⟩, ?_⟩
          repeat' (first | exact True.intro | exact rfl | (refine And.intro ?_ ?_) | exact Nat.le_of_ble_eq_true rfl)
          conv => whnf
          exact (congrArg (Value.int IntKind.i64) (wrap_succ (by omega))).symm
        · have h3' : (hs.getD i hz).down = false := h3
          refine ⟨fun h4 => ?_, fun h4 => ?_⟩ <;> conv => whnf
          · have h4' : ((hs.getD i hz).busy == (hs.getD i hz).room) = true := h4
            have hn1 : b = lbTo hs (i + 1) := by rw [hs1]; simp only [lbStep, h3', h4', Bool.or_true, cond_true]
            refine ⟨(i + 1, b), ⟨⟨hlt, hn1, hbn⟩, show hs.length - (i + 1) < hs.length - i by omega⟩, ?_⟩
            repeat' (first | exact True.intro | exact rfl | (refine And.intro ?_ ?_) | exact Nat.le_of_ble_eq_true rfl)
            conv => whnf
            exact (congrArg (Value.int IntKind.i64) (wrap_succ (by omega))).symm
          · have h4' : ((hs.getD i hz).busy == (hs.getD i hz).room) = false := h4
            refine ⟨by kernel_rfl, ?_⟩
            conv => whnf
            refine ⟨fun h5 => ?_, fun h5 => ?_⟩ <;> conv => whnf
            · have h5' : decide (b < 0) = true := h5
              refine ⟨fun _ => ?_, fun h => Bool.noConfusion h⟩
              conv => whnf
              have hn1 : (i : Int) = lbTo hs (i + 1) := by rw [hs1]; simp only [lbStep, h3', h4', h5', Bool.or_false, Bool.true_or, cond_true, cond_false]
              refine ⟨(i + 1, (i : Int)), ⟨⟨hlt, hn1, hbn'⟩, show hs.length - (i + 1) < hs.length - i by omega⟩, ?_⟩
              repeat' (first | exact True.intro | exact rfl | (refine And.intro ?_ ?_) | exact Nat.le_of_ble_eq_true rfl)
              conv => whnf
              exact (congrArg (Value.int IntKind.i64) (wrap_succ (by omega))).symm
            · have h5' : decide (b < 0) = false := h5
              have hb0 : 0 ≤ b := by simpa using h5'
              refine ⟨hb0, hbn, ?_⟩
              conv => whnf
              refine ⟨hb0, hbn, ?_⟩
              conv => whnf
              refine ⟨fun h6 => ?_, fun h6 => ?_⟩ <;> conv => whnf
              · have h6' : decide (IntKind.i64.wrap ((hs.getD i hz).busy * (hs.getD b.toNat hz).weight) < IntKind.i64.wrap ((hs.getD b.toNat hz).busy * (hs.getD i hz).weight)) = true := h6
                have hn1 : (i : Int) = lbTo hs (i + 1) := by rw [hs1]; simp only [lbStep, h3', h4', h5', h6', Bool.or_false, Bool.or_true, cond_true, cond_false]
                refine ⟨(i + 1, (i : Int)), ⟨⟨hlt, hn1, hbn'⟩, show hs.length - (i + 1) < hs.length - i by omega⟩, ?_⟩
                repeat' (first | exact True.intro | exact rfl | (refine And.intro ?_ ?_) | exact Nat.le_of_ble_eq_true rfl)
                conv => whnf
                exact (congrArg (Value.int IntKind.i64) (wrap_succ (by omega))).symm
              · have h6' : decide (IntKind.i64.wrap ((hs.getD i hz).busy * (hs.getD b.toNat hz).weight) < IntKind.i64.wrap ((hs.getD b.toNat hz).busy * (hs.getD i hz).weight)) = false := h6
                have hn1 : b = lbTo hs (i + 1) := by rw [hs1]; simp only [lbStep, h3', h4', h5', h6', Bool.or_false, cond_false]
                refine ⟨(i + 1, b), ⟨⟨hlt, hn1, hbn⟩, show hs.length - (i + 1) < hs.length - i by omega⟩, ?_⟩
                repeat' (first | exact True.intro | exact rfl | (refine And.intro ?_ ?_) | exact Nat.le_of_ble_eq_true rfl)
                conv => whnf
                exact (congrArg (Value.int IntKind.i64) (wrap_succ (by omega))).symm
      · have hge : ¬ (i : Int) < hs.length := by simpa using h2
        have hi' : i = hs.length := by omega
        repeat' (first | exact True.intro | exact rfl | (refine And.intro ?_ ?_) | exact Nat.le_of_ble_eq_true rfl)
        conv => whnf
        rw [leastOf, h1', cond_true, ← hi', ← hb]
theorem ok_specLeast (hs : List HostV) (hl : hs.length ≤ 1048576) (hn : ∀ h ∈ hs, h.name.size ≤ 1048576) : Ok Try.prog 27 [.one (.row elHost hs)] [] [] [.one (.val (.int .i64 (leastOf hs)))] [] [] := by
  refine Ok_of_vc (C := cx) cx_ok cx_mix (fn := Try.f27) rfl (by kernel_rfl) rfl (Nat.le_of_ble_eq_true (by kernel_rfl)) ?_
  conv => whnf
  refine ⟨by repeat' (first | exact True.intro | (refine And.intro ?_ ?_)), _, _, _, ok_specHostsOk' (List.take_length (l := hs)) hl hn, ?_⟩
  conv => whnf
  refine ⟨fun h1 => ?_, fun h1 => ?_⟩ <;> conv => whnf
  · have h1' : hostsOk hs = false := by
      have : (!(hostsOk hs)) = true := h1
      simpa using this
    repeat' (first | exact True.intro | exact rfl | (refine And.intro ?_ ?_) | exact Nat.le_of_ble_eq_true rfl)
    conv => whnf
    simp only [leastOf, h1', cond_false]
  · have h1' : hostsOk hs = true := by
      have : (!(hostsOk hs)) = false := h1
      simpa using this
    refine ⟨Nat × Int, fun x => x.1 ≤ hs.length ∧ x.2 = lbTo hs x.1 ∧ x.2 < hs.length, fun x => hs.length - x.1,
      fun x => { sl := [(0, .pv (.one (.ref 0 hs.length))), (2, .pv (.one (.val (.int .i64 0)))), (3, .pv (.one (.val (.int .i64 x.2)))), (4, .pv (.one (.val (.int .i64 x.1))))], rw := [(0, ⟨false, elHost, hs⟩)], ob := [], nx := 1, po := [], pr := [] },
      (0, -1), ⟨Nat.zero_le _, rfl, by show (-1 : Int) < (hs.length : Int); omega⟩, ?_, fun x hx => ?_⟩
    · repeat' (first | exact True.intro | exact rfl | (refine And.intro ?_ ?_) | exact Nat.le_of_ble_eq_true rfl)
    · obtain ⟨i, b⟩ := x
      obtain ⟨hi, hb, hbn⟩ := hx
      dsimp only at hi hb hbn
      conv => whnf
      refine ⟨fun h2 => ?_, fun h2 => ?_⟩ <;> conv => whnf
      · have hlt : i < hs.length := by simpa using h2
        have hbn' : ((i : Nat) : Int) < hs.length := by omega
        have hs1 := lbTo_succ hs i
        rw [← hb] at hs1
        refine ⟨by kernel_rfl, ?_⟩
        conv => whnf
        refine ⟨Int.natCast_nonneg _, by simpa using hlt, ?_⟩
        conv => whnf
        refine ⟨fun h3 => ?_, fun h3 => ?_⟩ <;> conv => whnf
        · have h3' : (hs.getD i hz).down = true := h3
          refine ⟨fun _ => ?_, fun h => Bool.noConfusion h⟩
          conv => whnf
          have hn1 : b = lbTo hs (i + 1) := by rw [hs1]; simp only [lbStep, h3', Bool.true_or, cond_true]
          refine ⟨(i + 1, b), ⟨⟨hlt, hn1, hbn⟩, show hs.length - (i + 1) < hs.length - i by omega⟩, ?_⟩
          repeat' (first | exact True.intro | exact rfl | (refine And.intro ?_ ?_) | exact Nat.le_of_ble_eq_true rfl)
          conv => whnf
          exact (congrArg (Value.int IntKind.i64) (wrap_succ (by omega))).symm
        · have h3' : (hs.getD i hz).down = false := h3
          refine ⟨Int.natCast_nonneg _, by simpa using hlt, ?_⟩
          conv => whnf
          refine ⟨Int.natCast_nonneg _, by simpa using hlt, ?_⟩
          conv => whnf
          refine ⟨fun h4 => ?_, fun h4 => ?_⟩ <;> conv => whnf
          · have h4' : ((hs.getD i hz).busy == (hs.getD i hz).room) = true := h4
            have hn1 : b = lbTo hs (i + 1) := by rw [hs1]; simp only [lbStep, h3', h4', Bool.or_true, cond_true]
            refine ⟨(i + 1, b), ⟨⟨hlt, hn1, hbn⟩, show hs.length - (i + 1) < hs.length - i by omega⟩, ?_⟩
            repeat' (first | exact True.intro | exact rfl | (refine And.intro ?_ ?_) | exact Nat.le_of_ble_eq_true rfl)
            conv => whnf
            exact (congrArg (Value.int IntKind.i64) (wrap_succ (by omega))).symm
          · have h4' : ((hs.getD i hz).busy == (hs.getD i hz).room) = false := h4
            refine ⟨by kernel_rfl, ?_⟩
            conv => whnf
            refine ⟨fun h5 => ?_, fun h5 => ?_⟩ <;> conv => whnf
            · have h5' : decide (b < 0) = true := h5
              refine ⟨fun _ => ?_, fun h => Bool.noConfusion h⟩
              conv => whnf
              have hn1 : (i : Int) = lbTo hs (i + 1) := by rw [hs1]; simp only [lbStep, h3', h4', h5', Bool.or_false, Bool.true_or, cond_true, cond_false]
              refine ⟨(i + 1, (i : Int)), ⟨⟨hlt, hn1, hbn'⟩, show hs.length - (i + 1) < hs.length - i by omega⟩, ?_⟩
              repeat' (first | exact True.intro | exact rfl | (refine And.intro ?_ ?_) | exact Nat.le_of_ble_eq_true rfl)
              conv => whnf
              exact (congrArg (Value.int IntKind.i64) (wrap_succ (by omega))).symm
            · have h5' : decide (b < 0) = false := h5
              have hb0 : 0 ≤ b := by simpa using h5'
              refine ⟨Int.natCast_nonneg _, by simpa using hlt, ?_⟩
              conv => whnf
              refine ⟨hb0, hbn, ?_⟩
              conv => whnf
              refine ⟨hb0, hbn, ?_⟩
              conv => whnf
              refine ⟨Int.natCast_nonneg _, by simpa using hlt, ?_⟩
              conv => whnf
              refine ⟨fun h6 => ?_, fun h6 => ?_⟩ <;> conv => whnf
              · have h6' : decide (IntKind.i64.wrap ((hs.getD i hz).busy * (hs.getD b.toNat hz).weight) < IntKind.i64.wrap ((hs.getD b.toNat hz).busy * (hs.getD i hz).weight)) = true := h6
                have hn1 : (i : Int) = lbTo hs (i + 1) := by rw [hs1]; simp only [lbStep, h3', h4', h5', h6', Bool.or_false, Bool.or_true, cond_true, cond_false]
                refine ⟨(i + 1, (i : Int)), ⟨⟨hlt, hn1, hbn'⟩, show hs.length - (i + 1) < hs.length - i by omega⟩, ?_⟩
                repeat' (first | exact True.intro | exact rfl | (refine And.intro ?_ ?_) | exact Nat.le_of_ble_eq_true rfl)
                conv => whnf
                exact (congrArg (Value.int IntKind.i64) (wrap_succ (by omega))).symm
              · have h6' : decide (IntKind.i64.wrap ((hs.getD i hz).busy * (hs.getD b.toNat hz).weight) < IntKind.i64.wrap ((hs.getD b.toNat hz).busy * (hs.getD i hz).weight)) = false := h6
                have hn1 : b = lbTo hs (i + 1) := by rw [hs1]; simp only [lbStep, h3', h4', h5', h6', Bool.or_false, cond_false]
                refine ⟨(i + 1, b), ⟨⟨hlt, hn1, hbn⟩, show hs.length - (i + 1) < hs.length - i by omega⟩, ?_⟩
                repeat' (first | exact True.intro | exact rfl | (refine And.intro ?_ ?_) | exact Nat.le_of_ble_eq_true rfl)
                conv => whnf
                exact (congrArg (Value.int IntKind.i64) (wrap_succ (by omega))).symm
      · have hge : ¬ (i : Int) < hs.length := by simpa using h2
        have hi' : i = hs.length := by omega
        repeat' (first | exact True.intro | exact rfl | (refine And.intro ?_ ?_) | exact Nat.le_of_ble_eq_true rfl)
        conv => whnf
        rw [leastOf, h1', cond_true, ← hi', ← hb]
theorem ok_least' {ys hs : List HostV} (e : ys = hs) (hl : hs.length ≤ 1048576) (hn : ∀ h ∈ hs, h.name.size ≤ 1048576) : Ok Try.prog 28 [.one (.row elHost ys)] [] [] [.one (.val (.int .i64 (leastOf hs)))] [] [] := by
  subst e; exact ok_least _ hl hn
theorem ok_specLeast' {ys hs : List HostV} (e : ys = hs) (hl : hs.length ≤ 1048576) (hn : ∀ h ∈ hs, h.name.size ≤ 1048576) : Ok Try.prog 27 [.one (.row elHost ys)] [] [] [.one (.val (.int .i64 (leastOf hs)))] [] [] := by
  subst e; exact ok_specLeast _ hl hn
theorem ok_fnLeast (hs : List HostV) (hl : hs.length ≤ 9223372036854775807) (hn : ∀ h ∈ hs, h.name.size ≤ 9223372036854775807) : Ok Try.prog 6 [.one (.row elHostL hs)] [] [] [.one (.val (.bool true))] [] [] := by
  refine Ok_of_vc (C := cx) cx_ok cx_mix (fn := Try.f6) rfl (by kernel_rfl) rfl (Nat.le_of_ble_eq_true (by kernel_rfl)) ?_
  conv => whnf
  refine ⟨by repeat' (first | exact True.intro | (refine And.intro ?_ ?_)), _, _, _, ok_szHostS' (List.take_length (l := hs)) 1048576 (by decide) (by decide) hl hn, ?_⟩
  conv => whnf
  refine ⟨fun h1 => ?_, fun h1 => ?_⟩ <;> conv => whnf
  · repeat' (first | exact True.intro | exact rfl | (refine And.intro ?_ ?_) | exact Nat.le_of_ble_eq_true rfl)
  · have hsz := szS_spec (hs := hs) (of_decide_eq_false h1)
    refine ⟨by repeat' (first | exact True.intro | (refine And.intro ?_ ?_)), _, _, _, ok_toHostS' (List.take_length (l := hs)) hsz.1, ?_⟩
    conv => whnf
    refine ⟨by repeat' (first | exact True.intro | (refine And.intro ?_ ?_)), _, _, _, ok_specLeast' (List.take_length (l := hs)) hsz.1 hsz.2, ?_⟩
    conv => whnf
    refine ⟨by repeat' (first | exact True.intro | (refine And.intro ?_ ?_)), _, _, _, ok_toHostS' (List.take_length (l := hs)) hsz.1, ?_⟩
    conv => whnf
    refine ⟨by repeat' (first | exact True.intro | (refine And.intro ?_ ?_)), _, _, _, ok_least' (List.take_length (l := hs)) hsz.1 hsz.2, ?_⟩
    conv => whnf
    refine ⟨fun h2 => ?_, fun h2 => ?_⟩ <;> conv => whnf
    · have : (leastOf hs != leastOf hs) = true := h2
      simp at this
    · refine ⟨by repeat' (first | exact True.intro | (refine And.intro ?_ ?_)), _, _, _, ok_toHostS' (List.take_length (l := hs)) hsz.1, ?_⟩
      conv => whnf
      refine ⟨by repeat' (first | exact True.intro | (refine And.intro ?_ ?_)), _, _, _, ok_eqHostS' (List.take_length (l := hs)) (List.take_length (l := hs)) hsz.1, ?_⟩
      conv => whnf
      refine ⟨fun h3 => Bool.noConfusion h3, fun _ => ?_⟩
      conv => whnf
      repeat' (first | exact True.intro | exact rfl | (refine And.intro ?_ ?_) | exact Nat.le_of_ble_eq_true rfl)
end Go.Proofs.Ythkdbflhneabbaa.Ev
