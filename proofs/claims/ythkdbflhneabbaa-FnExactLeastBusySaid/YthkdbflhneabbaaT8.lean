import Derived.Test.YthkdbflhneabbaaT7
set_option linter.unusedVariables false
set_option linter.unusedSimpArgs false
namespace Go.Proofs.Ythkdbflhneabbaa.Ev
open Go.RowKit

theorem wrap_succ {i : Nat} (h : i ≤ 9223372036854775806) : IntKind.i64.wrap ((i : Int) + 1) = ((i + 1 : Nat) : Int) := by
  rw [wrap_id (by omega) (by omega)]; rfl
def lf : List HostV → Int → Int → Int × Int
  | [], b, r => (b, r)
  | h :: t, b, r => cond h.down (lf t b r) (lf t (IntKind.i64.wrap (b + h.busy)) (IntKind.i64.wrap (r + h.room)))
def loadOf (hs : List HostV) : Int × Int := cond (hostsOk hs) (lf hs 0 0) (-1, -1)
theorem ok_load (hs : List HostV) (hl : hs.length ≤ 1048576) (hn : ∀ h ∈ hs, h.name.size ≤ 1048576) : Ok Try.prog 26 [.one (.row elHost hs)] [] [] [.one (.val (.int .i64 (loadOf hs).1)), .one (.val (.int .i64 (loadOf hs).2))] [] [] := by
  refine Ok_of_vc (C := cx) cx_ok cx_mix (fn := Try.f26) rfl (by kernel_rfl) rfl (Nat.le_of_ble_eq_true (by kernel_rfl)) ?_
  conv => whnf
  refine ⟨by repeat' (first | exact True.intro | (refine And.intro ?_ ?_)), _, _, _, ok_hostsOk' (List.take_length (l := hs)) hl hn, ?_⟩
  conv => whnf
  refine ⟨fun h1 => ?_, fun h1 => ?_⟩ <;> conv => whnf
  · have h1' : hostsOk hs = false := by
      have : (!(hostsOk hs)) = true := h1
      simpa using this
    repeat' (first | exact True.intro | exact rfl | (refine And.intro ?_ ?_) | exact Nat.le_of_ble_eq_true rfl)
    all_goals (conv => whnf)
    all_goals simp only [loadOf, h1', cond_false]
  · have h1' : hostsOk hs = true := by
      have : (!(hostsOk hs)) = false := h1
      simpa using this
    refine ⟨Nat × Int × Int, fun x => x.1 ≤ hs.length ∧ lf (hs.drop x.1) x.2.1 x.2.2 = lf hs 0 0, fun x => hs.length - x.1,
      fun x => { sl := [(0, .pv (.one (.ref 0 hs.length))), (2, .pv (.one (.val (.int .i64 0)))), (3, .pv (.one (.val (.int .i64 0)))), (4, .pv (.one (.val (.int .i64 x.2.1)))), (5, .pv (.one (.val (.int .i64 x.2.2)))), (11, .pv (.one (.ref 0 hs.length))), (12, .pv (.one (.val (.int .i64 hs.length)))), (13, .pv (.one (.val (.int .i64 x.1))))], rw := [(0, ⟨false, elHost, hs⟩)], ob := [], nx := 1, po := [], pr := [] },
      (0, 0, 0), ⟨Nat.zero_le _, rfl⟩, ?_, fun x hx => ?_⟩
    · repeat' (first | exact True.intro | exact rfl | (refine And.intro ?_ ?_) | exact Nat.le_of_ble_eq_true rfl)
    · obtain ⟨i, b, r⟩ := x
      obtain ⟨hi, hx⟩ := hx
      dsimp only at hi hx
      conv => whnf
      refine ⟨fun h2 => ?_, fun h2 => ?_⟩ <;> conv => whnf
      · have hlt : i < hs.length := by simpa using h2
        rw [drop_get hz hlt, lf] at hx
        refine ⟨Int.natCast_nonneg _, by simpa using hlt, ?_⟩
        conv => whnf
        refine ⟨fun h3 => ?_, fun h3 => ?_⟩ <;> conv => whnf
        · have h3' : (hs.getD i hz).down = false := by
            have : (!((hs.getD i hz).down)) = true := h3
            simpa using this
          rw [h3', cond_false] at hx
          refine ⟨(i + 1, IntKind.i64.wrap (b + (hs.getD i hz).busy), IntKind.i64.wrap (r + (hs.getD i hz).room)), ⟨⟨hlt, hx⟩, show hs.length - (i + 1) < hs.length - i by omega⟩, ?_⟩
          repeat' (first | exact True.intro | exact rfl | (refine And.intro ?_ ?_) | exact Nat.le_of_ble_eq_true rfl)
          conv => whnf
          exact (congrArg (Value.int IntKind.i64) (wrap_succ (by omega))).symm
        · have h3' : (hs.getD i hz).down = true := by
            have : (!((hs.getD i hz).down)) = false := h3
            simpa using this
          rw [h3', cond_true] at hx
          refine ⟨(i + 1, b, r), ⟨⟨hlt, hx⟩, show hs.length - (i + 1) < hs.length - i by omega⟩, ?_⟩
          repeat' (first | exact True.intro | exact rfl | (refine And.intro ?_ ?_) | exact Nat.le_of_ble_eq_true rfl)
          conv => whnf
          exact (congrArg (Value.int IntKind.i64) (wrap_succ (by omega))).symm
      · have hge : ¬ (i : Int) < hs.length := by simpa using h2
        rw [List.drop_of_length_le (by omega), lf] at hx
        have hb : (loadOf hs).1 = b := by rw [loadOf, h1', cond_true, ← hx]
        have hr : (loadOf hs).2 = r := by rw [loadOf, h1', cond_true, ← hx]
        repeat' (first | exact True.intro | exact rfl | (refine And.intro ?_ ?_) | exact Nat.le_of_ble_eq_true rfl)
        · conv => whnf
          rw [hb]
        · conv => whnf
          rw [hr]
theorem ok_specLoad (hs : List HostV) (hl : hs.length ≤ 1048576) (hn : ∀ h ∈ hs, h.name.size ≤ 1048576) : Ok Try.prog 25 [.one (.row elHost hs)] [] [] [.one (.val (.int .i64 (loadOf hs).1)), .one (.val (.int .i64 (loadOf hs).2))] [] [] := by
  refine Ok_of_vc (C := cx) cx_ok cx_mix (fn := Try.f25) rfl (by kernel_rfl) rfl (Nat.le_of_ble_eq_true (by kernel_rfl)) ?_
  conv => whnf
  refine ⟨by repeat' (first | exact True.intro | (refine And.intro ?_ ?_)), _, _, _, ok_specHostsOk' (List.take_length (l := hs)) hl hn, ?_⟩
  conv => whnf
  refine ⟨fun h1 => ?_, fun h1 => ?_⟩ <;> conv => whnf
  · have h1' : hostsOk hs = false := by
      have : (!(hostsOk hs)) = true := h1
      simpa using this
    repeat' (first | exact True.intro | exact rfl | (refine And.intro ?_ ?_) | exact Nat.le_of_ble_eq_true rfl)
    all_goals (conv => whnf)
    all_goals simp only [loadOf, h1', cond_false]
  · have h1' : hostsOk hs = true := by
      have : (!(hostsOk hs)) = false := h1
      simpa using this
    refine ⟨Nat × Int × Int, fun x => x.1 ≤ hs.length ∧ lf (hs.drop x.1) x.2.1 x.2.2 = lf hs 0 0, fun x => hs.length - x.1,
      fun x => { sl := [(0, .pv (.one (.ref 0 hs.length))), (2, .pv (.one (.val (.int .i64 0)))), (3, .pv (.one (.val (.int .i64 0)))), (4, .pv (.one (.val (.int .i64 x.2.1)))), (5, .pv (.one (.val (.int .i64 x.2.2)))), (6, .pv (.one (.val (.int .i64 x.1))))], rw := [(0, ⟨false, elHost, hs⟩)], ob := [], nx := 1, po := [], pr := [] },
      (0, 0, 0), ⟨Nat.zero_le _, rfl⟩, ?_, fun x hx => ?_⟩
    · repeat' (first | exact True.intro | exact rfl | (refine And.intro ?_ ?_) | exact Nat.le_of_ble_eq_true rfl)
    · obtain ⟨i, b, r⟩ := x
      obtain ⟨hi, hx⟩ := hx
      dsimp only at hi hx
      conv => whnf
      refine ⟨fun h2 => ?_, fun h2 => ?_⟩ <;> conv => whnf
      · have hlt : i < hs.length := by simpa using h2
        rw [drop_get hz hlt, lf] at hx
        refine ⟨Int.natCast_nonneg _, by simpa using hlt, ?_⟩
        conv => whnf
        refine ⟨fun h3 => ?_, fun h3 => ?_⟩ <;> conv => whnf
        · have h3' : (hs.getD i hz).down = false := by
            have : (!((hs.getD i hz).down)) = true := h3
            simpa using this
          rw [h3', cond_false] at hx
          refine ⟨Int.natCast_nonneg _, by simpa using hlt, ?_⟩
          conv => whnf
          refine ⟨Int.natCast_nonneg _, by simpa using hlt, ?_⟩
          conv => whnf
          refine ⟨(i + 1, IntKind.i64.wrap (b + (hs.getD i hz).busy), IntKind.i64.wrap (r + (hs.getD i hz).room)), ⟨⟨hlt, hx⟩, show hs.length - (i + 1) < hs.length - i by omega⟩, ?_⟩
          repeat' (first | exact True.intro | exact rfl | (refine And.intro ?_ ?_) | exact Nat.le_of_ble_eq_true rfl)
          conv => whnf
          exact (congrArg (Value.int IntKind.i64) (wrap_succ (by omega))).symm
        · have h3' : (hs.getD i hz).down = true := by
            have : (!((hs.getD i hz).down)) = false := h3
            simpa using this
          rw [h3', cond_true] at hx
          refine ⟨(i + 1, b, r), ⟨⟨hlt, hx⟩, show hs.length - (i + 1) < hs.length - i by omega⟩, ?_⟩
          repeat' (first | exact True.intro | exact rfl | (refine And.intro ?_ ?_) | exact Nat.le_of_ble_eq_true rfl)
          conv => whnf
          exact (congrArg (Value.int IntKind.i64) (wrap_succ (by omega))).symm
      · have hge : ¬ (i : Int) < hs.length := by simpa using h2
        rw [List.drop_of_length_le (by omega), lf] at hx
        have hb : (loadOf hs).1 = b := by rw [loadOf, h1', cond_true, ← hx]
        have hr : (loadOf hs).2 = r := by rw [loadOf, h1', cond_true, ← hx]
        repeat' (first | exact True.intro | exact rfl | (refine And.intro ?_ ?_) | exact Nat.le_of_ble_eq_true rfl)
        · conv => whnf
          rw [hb]
        · conv => whnf
          rw [hr]
theorem ok_load' {ys hs : List HostV} (e : ys = hs) (hl : hs.length ≤ 1048576) (hn : ∀ h ∈ hs, h.name.size ≤ 1048576) : Ok Try.prog 26 [.one (.row elHost ys)] [] [] [.one (.val (.int .i64 (loadOf hs).1)), .one (.val (.int .i64 (loadOf hs).2))] [] [] := by
  subst e; exact ok_load _ hl hn
theorem ok_specLoad' {ys hs : List HostV} (e : ys = hs) (hl : hs.length ≤ 1048576) (hn : ∀ h ∈ hs, h.name.size ≤ 1048576) : Ok Try.prog 25 [.one (.row elHost ys)] [] [] [.one (.val (.int .i64 (loadOf hs).1)), .one (.val (.int .i64 (loadOf hs).2))] [] [] := by
  subst e; exact ok_specLoad _ hl hn
theorem ok_fnLoad (hs : List HostV) (hl : hs.length ≤ 9223372036854775807) (hn : ∀ h ∈ hs, h.name.size ≤ 9223372036854775807) : Ok Try.prog 5 [.one (.row elHostL hs)] [] [] [.one (.val (.bool true))] [] [] := by
  refine Ok_of_vc (C := cx) cx_ok cx_mix (fn := Try.f5) rfl (by kernel_rfl) rfl (Nat.le_of_ble_eq_true (by kernel_rfl)) ?_
  conv => whnf
  refine ⟨by repeat' (first | exact True.intro | (refine And.intro ?_ ?_)), _, _, _, ok_szHostS' (List.take_length (l := hs)) 1048576 (by decide) (by decide) hl hn, ?_⟩
  conv => whnf
  refine ⟨fun h1 => ?_, fun h1 => ?_⟩ <;> conv => whnf
  · repeat' (first | exact True.intro | exact rfl | (refine And.intro ?_ ?_) | exact Nat.le_of_ble_eq_true rfl)
  · have hsz := szS_spec (hs := hs) (of_decide_eq_false h1)
    refine ⟨by repeat' (first | exact True.intro | (refine And.intro ?_ ?_)), _, _, _, ok_toHostS' (List.take_length (l := hs)) hsz.1, ?_⟩
    conv => whnf
    refine ⟨by repeat' (first | exact True.intro | (refine And.intro ?_ ?_)), _, _, _, ok_specLoad' (List.take_length (l := hs)) hsz.1 hsz.2, ?_⟩
    conv => whnf
    refine ⟨by repeat' (first | exact True.intro | (refine And.intro ?_ ?_)), _, _, _, ok_toHostS' (List.take_length (l := hs)) hsz.1, ?_⟩
    conv => whnf
    refine ⟨by repeat' (first | exact True.intro | (refine And.intro ?_ ?_)), _, _, _, ok_load' (List.take_length (l := hs)) hsz.1 hsz.2, ?_⟩
    conv => whnf
    refine ⟨fun h2 => ?_, fun h2 => ?_⟩ <;> conv => whnf
    · have : ((loadOf hs).1 != (loadOf hs).1) = true := h2
      simp at this
    · refine ⟨fun h3 => ?_, fun h3 => ?_⟩ <;> conv => whnf
      · have : ((loadOf hs).2 != (loadOf hs).2) = true := h3
        simp at this
      · refine ⟨by repeat' (first | exact True.intro | (refine And.intro ?_ ?_)), _, _, _, ok_toHostS' (List.take_length (l := hs)) hsz.1, ?_⟩
        conv => whnf
        refine ⟨by repeat' (first | exact True.intro | (refine And.intro ?_ ?_)), _, _, _, ok_eqHostS' (List.take_length (l := hs)) (List.take_length (l := hs)) hsz.1, ?_⟩
        conv => whnf
        refine ⟨fun h4 => Bool.noConfusion h4, fun _ => ?_⟩
        conv => whnf
        repeat' (first | exact True.intro | exact rfl | (refine And.intro ?_ ?_) | exact Nat.le_of_ble_eq_true rfl)
end Go.Proofs.Ythkdbflhneabbaa.Ev
