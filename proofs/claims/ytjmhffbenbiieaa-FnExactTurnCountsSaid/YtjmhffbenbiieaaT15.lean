import Derived.Test.YtjmhffbenbiieaaT14
set_option linter.unusedVariables false
set_option linter.unusedSimpArgs false
namespace Go.Proofs.Ytjmhffbenbiieaa.Ev
open Go.RowKit

theorem row_take {el : El} {xs ys : List el.α} (h : xs = ys) : (⟨true, el, xs⟩ : Row) = ⟨true, el, List.take ys.length ys⟩ := by rw [List.take_length, h]
theorem row_takeN {el : El} {xs ys : List el.α} {n : Nat} (h : xs = ys) (hn : ys.length ≤ n) : (⟨true, el, xs⟩ : Row) = ⟨true, el, List.take n ys⟩ := by rw [List.take_of_length_le hn, h]
theorem set_len {α} {hs : List α} {i : Nat} {x : α} : (hs.set i x).length ≤ hs.length := Nat.le_of_eq List.length_set
abbrev sI (x : Int) : SV := .pv (.one (.val (.int .i64 x)))
abbrev sB (x : Bool) : SV := .pv (.one (.val (.bool x)))
abbrev sS (x : ByteArray) : SV := .pv (.one (.val (.string x)))
abbrev sR (r n : Nat) : SV := .pv (.one (.ref r n))
abbrev sP (o : Nat) : SV := .pv (.one (.ptr o 0))
def mayT (hs : List HostV) (p : Int) : Bool := mayAt (fun h => !h.down && decide (h.busy < h.room)) hs p
def mayG (hs : List HostV) (p : Int) : Bool := mayAt (fun h => decide (h.busy > 0)) hs p
def mayS (d : Bool) (hs : List HostV) (p : Int) : Bool := mayAt (fun h => h.down != d) hs p
def takeH (hs : List HostV) (p : Int) : List HostV := cond (mayT hs p) (hs.set p.toNat { hs.getD p.toNat hz with busy := IntKind.i64.wrap ((hs.getD p.toNat hz).busy + 1) }) hs
def giveH (hs : List HostV) (p : Int) : List HostV := cond (mayG hs p) (hs.set p.toNat { hs.getD p.toNat hz with busy := IntKind.i64.wrap ((hs.getD p.toNat hz).busy - 1) }) hs
def setH (d : Bool) (hs : List HostV) (p : Int) : List HostV := cond (mayS d hs p) (hs.set p.toNat { hs.getD p.toNat hz with down := d }) hs
theorem ok_take (hs : List HostV) (p : Int) (hl : hs.length ≤ 1048576) (hn : ∀ h ∈ hs, h.name.size ≤ 1048576) : Ok cx 33 [.one (.row elHost hs), vi p] [] [] [.one (.row elHost (takeH hs p)), .one (.val (.bool (mayT hs p)))] [] [] := by
  refine Ok_of_vc (C := cx) cx_ok cx_mix (fn := Try.f33) rfl (by kernel_rfl) rfl (Nat.le_of_ble_eq_true (by kernel_rfl)) ?_
  conv => whnf
  repeat' (first | exact True.intro | exact rfl | (refine FinG.done ?_; conv => whnf) | (refine And.intro ?_ ?_) | exact Nat.le_of_ble_eq_true rfl | (refine Two.no rfl ?_; conv => whnf) | (refine Two.yes rfl ?_; conv => whnf) | (refine Two.no (bne_self_eq_false _) ?_; conv => whnf) | (refine CallG.at (ok_changeTake hs p hl hn) ?_ ?_ ?_ ?_; rotate_left; (focus (first | with_reducible rfl | (simp; done) | rfl)); (focus (first | with_reducible rfl | (simp; done) | rfl)); (focus (first | with_reducible rfl | (simp; done) | rfl)); conv => whnf) | (refine CallQ.at (ok_changeTake hs p hl hn) ?_ ?_ ?_; rotate_left; (focus (first | with_reducible rfl | (simp; done) | rfl)); (focus (first | with_reducible rfl | (simp; done) | rfl)); conv => whnf) | (refine Two.mk (fun h => ?_) (fun h => ?_) <;> conv => whnf))
  exact row_take rfl
theorem ok_give (hs : List HostV) (p : Int) (hl : hs.length ≤ 1048576) (hn : ∀ h ∈ hs, h.name.size ≤ 1048576) : Ok cx 34 [.one (.row elHost hs), vi p] [] [] [.one (.row elHost (giveH hs p)), .one (.val (.bool (mayG hs p)))] [] [] := by
  refine Ok_of_vc (C := cx) cx_ok cx_mix (fn := Try.f34) rfl (by kernel_rfl) rfl (Nat.le_of_ble_eq_true (by kernel_rfl)) ?_
  conv => whnf
  repeat' (first | exact True.intro | exact rfl | (refine FinG.done ?_; conv => whnf) | (refine And.intro ?_ ?_) | exact Nat.le_of_ble_eq_true rfl | (refine Two.no rfl ?_; conv => whnf) | (refine Two.yes rfl ?_; conv => whnf) | (refine Two.no (bne_self_eq_false _) ?_; conv => whnf) | (refine CallG.at (ok_changeGive hs p hl hn) ?_ ?_ ?_ ?_; rotate_left; (focus (first | with_reducible rfl | (simp; done) | rfl)); (focus (first | with_reducible rfl | (simp; done) | rfl)); (focus (first | with_reducible rfl | (simp; done) | rfl)); conv => whnf) | (refine CallQ.at (ok_changeGive hs p hl hn) ?_ ?_ ?_; rotate_left; (focus (first | with_reducible rfl | (simp; done) | rfl)); (focus (first | with_reducible rfl | (simp; done) | rfl)); conv => whnf) | (refine Two.mk (fun h => ?_) (fun h => ?_) <;> conv => whnf))
  exact row_take rfl
theorem ok_set (d : Bool) (hs : List HostV) (p : Int) (hl : hs.length ≤ 1048576) (hn : ∀ h ∈ hs, h.name.size ≤ 1048576) : Ok cx 35 [.one (.row elHost hs), vi p, .one (.val (.bool d))] [] [] [.one (.row elHost (setH d hs p)), .one (.val (.bool (mayS d hs p)))] [] [] := by
  refine Ok_of_vc (C := cx) cx_ok cx_mix (fn := Try.f35) rfl (by kernel_rfl) rfl (Nat.le_of_ble_eq_true (by kernel_rfl)) ?_
  conv => whnf
  repeat' (first | exact True.intro | exact rfl | (refine FinG.done ?_; conv => whnf) | (refine And.intro ?_ ?_) | exact Nat.le_of_ble_eq_true rfl | (refine Two.no rfl ?_; conv => whnf) | (refine Two.yes rfl ?_; conv => whnf) | (refine Two.no (bne_self_eq_false _) ?_; conv => whnf) | (refine CallG.at (ok_changeSet d hs p hl hn) ?_ ?_ ?_ ?_; rotate_left; (focus (first | with_reducible rfl | (simp; done) | rfl)); (focus (first | with_reducible rfl | (simp; done) | rfl)); (focus (first | with_reducible rfl | (simp; done) | rfl)); conv => whnf) | (refine CallQ.at (ok_changeSet d hs p hl hn) ?_ ?_ ?_; rotate_left; (focus (first | with_reducible rfl | (simp; done) | rfl)); (focus (first | with_reducible rfl | (simp; done) | rfl)); conv => whnf) | (refine Two.mk (fun h => ?_) (fun h => ?_) <;> conv => whnf))
  exact row_take rfl
theorem ok_l16Good (hs : List HostV) (p : Int) (hl : hs.length ≤ 1048576) (hn : ∀ h ∈ hs, h.name.size ≤ 1048576) : Ok cx 45 [.one (.row elHost hs), vi p] [] [] [.one (.val (.bool (hostsOk hs && inB p 0 (IntKind.i64.wrap (hs.length - 1)))))] [] [] := by
  refine Ok_of_vc (C := cx) cx_ok cx_mix (fn := Try.f45) rfl (by kernel_rfl) rfl (Nat.le_of_ble_eq_true (by kernel_rfl)) ?_
  conv => whnf
  repeat' (first | exact True.intro | exact rfl | (refine FinG.done ?_; conv => whnf) | (refine And.intro ?_ ?_) | exact Nat.le_of_ble_eq_true rfl | (refine Two.no rfl ?_; conv => whnf) | (refine Two.yes rfl ?_; conv => whnf) | (refine Two.no (bne_self_eq_false _) ?_; conv => whnf) | (refine CallG.at (ok_specHostsOk hs hl hn) ?_ ?_ ?_ ?_; rotate_left; (focus (first | with_reducible rfl | (simp; done) | rfl)); (focus (first | with_reducible rfl | (simp; done) | rfl)); (focus (first | with_reducible rfl | (simp; done) | rfl)); conv => whnf) | (refine CallQ.at (ok_specHostsOk hs hl hn) ?_ ?_ ?_; rotate_left; (focus (first | with_reducible rfl | (simp; done) | rfl)); (focus (first | with_reducible rfl | (simp; done) | rfl)); conv => whnf) | (refine CallG.at (ok_in52 _ _ _) ?_; conv => whnf) | (refine CallQ.at (ok_in52 _ _ _) ?_; conv => whnf) | (refine Two.mk (fun h => ?_) (fun h => ?_) <;> conv => whnf))
  all_goals (first | exact row_take rfl | ((conv => whnf); first | rfl | (simp_all [inB]; done)))
theorem ok_copy2 (hs : List HostV) (hl : hs.length ≤ 1048576) : Ok cx 26 [.one (.row elHost hs)] [] [] [.one (.row elHost hs)] [] [] := ok_copy hs hl
theorem may_no {f : HostV → Bool} {hs : List HostV} {p : Int} (h : (!(hostsOk hs && inB p 0 (IntKind.i64.wrap (hs.length - 1)))) = true) : mayAt f hs p = false := by
  rw [Bool.not_eq_true'] at h
  simp only [mayAt, ← Bool.and_assoc, h, Bool.false_and]
theorem may_yes {f : HostV → Bool} {hs : List HostV} {p : Int} (h : (!(hostsOk hs && inB p 0 (IntKind.i64.wrap (hs.length - 1)))) = false) : mayAt f hs p = f (hs.getD p.toNat hz) := by
  rw [Bool.not_eq_false'] at h
  simp only [mayAt, ← Bool.and_assoc, h, Bool.true_and]
theorem good_in {hs : List HostV} {p : Int} (hl : hs.length ≤ 1048576) (h : (!(hostsOk hs && inB p 0 (IntKind.i64.wrap (hs.length - 1)))) = false) : (0 ≤ p ∧ p < hs.length) ∧ 0 ≤ (hs.getD p.toNat hz).busy ∧ (hs.getD p.toNat hz).busy ≤ (hs.getD p.toNat hz).room := by
  rw [Bool.not_eq_false', Bool.and_eq_true] at h
  have hw : IntKind.i64.wrap ((hs.length : Int) - 1) = hs.length - 1 := wrap_id (by omega) (by omega)
  have h2 := h.2
  rw [hw] at h2
  simp only [inB, Bool.and_eq_true, decide_eq_true_eq] at h2
  have hp : 0 ≤ p ∧ p < hs.length := by omega
  have h1 := h.1
  simp only [hostsOk, Bool.and_eq_true] at h1
  have h3 := List.all_eq_true.1 h1.2 p.toNat (List.mem_range.2 (by omega))
  simp only [good, HostV.ok, inB, Bool.and_eq_true, decide_eq_true_eq] at h3
  exact ⟨hp, by omega, by omega⟩
theorem ok_sset (d : Bool) (hs : List HostV) (p : Int) (hl : hs.length ≤ 1048576) (hn : ∀ h ∈ hs, h.name.size ≤ 1048576) : Ok cx 30 [.one (.row elHost hs), vi p, .one (.val (.bool d))] [] [] [.one (.row elHost (setH d hs p)), .one (.val (.bool (mayS d hs p)))] [] [] := by
  generalize hm : mayS d hs p = m
  generalize hq : setH d hs p = q
  refine Ok_of_vc (C := cx) cx_ok cx_mix (fn := Try.f30) rfl (by kernel_rfl) rfl (Nat.le_of_ble_eq_true (by kernel_rfl)) ?_
  conv => whnf
  refine CallG.at (ok_copy hs hl) ?_
  conv => whnf
  refine CallG.at (ok_l16Good hs p hl hn) ?_
  conv => whnf
  refine Two.mk (fun h => ?_) (fun h => ?_) <;> conv => whnf
  · have e1 : mayS d hs p = false := may_no h
    have e2 : setH d hs p = hs := by simp only [setH, e1, cond_false]
    rw [hm] at e1; rw [hq] at e2; subst e1 e2
    repeat' (first | exact True.intro | exact rfl | (refine FinG.done ?_; conv => whnf) | (refine And.intro ?_ ?_) | exact Nat.le_of_ble_eq_true rfl | (refine Two.no rfl ?_; conv => whnf) | (refine Two.yes rfl ?_; conv => whnf) | (refine Two.no (bne_self_eq_false _) ?_; conv => whnf) | (refine Two.mk (fun h => ?_) (fun h => ?_) <;> conv => whnf))
    all_goals exact row_take rfl
  · obtain ⟨hp, hb, hr⟩ := good_in hl h
    have e0 : mayS d hs p = _ := may_yes h
    refine ⟨hp.1, hp.2, ?_⟩
    conv => whnf
    refine Two.mk (fun h2 => ?_) (fun h2 => ?_) <;> conv => whnf
    · have e1 : mayS d hs p = false := (by rw [e0]; show (!((hs.getD p.toNat hz).down == d)) = false; rw [show ((hs.getD p.toNat hz).down == d) = true from h2]; rfl)
      have e2 : setH d hs p = hs := by simp only [setH, e1, cond_false]
      rw [hm] at e1; rw [hq] at e2; subst e1 e2
      repeat' (first | exact True.intro | exact rfl | (refine FinG.done ?_; conv => whnf) | (refine And.intro ?_ ?_) | exact Nat.le_of_ble_eq_true rfl | (refine Two.no rfl ?_; conv => whnf) | (refine Two.yes rfl ?_; conv => whnf) | (refine Two.no (bne_self_eq_false _) ?_; conv => whnf) | (refine Two.mk (fun h => ?_) (fun h => ?_) <;> conv => whnf))
      all_goals exact row_take rfl
    · have e1 : mayS d hs p = true := (by rw [e0]; show (!((hs.getD p.toNat hz).down == d)) = true; rw [show ((hs.getD p.toNat hz).down == d) = false from h2]; rfl)
      simp only [setH, e1, cond_true] at hq
      rw [e1] at hm; subst hm hq
      repeat' (first | exact True.intro | exact rfl | exact hp.1 | exact hp.2 | (refine FinG.done ?_; conv => whnf) | (refine And.intro ?_ ?_) | (refine ⟨hp.1, hp.2, ?_⟩; conv => whnf))
      all_goals (conv => rhs; whnf); exact row_takeN rfl set_len
theorem ok_stake (hs : List HostV) (p : Int) (hl : hs.length ≤ 1048576) (hn : ∀ h ∈ hs, h.name.size ≤ 1048576) : Ok cx 28 [.one (.row elHost hs), vi p] [] [] [.one (.row elHost (takeH hs p)), .one (.val (.bool (mayT hs p)))] [] [] := by
  generalize hm : mayT hs p = m
  generalize hq : takeH hs p = q
  refine Ok_of_vc (C := cx) cx_ok cx_mix (fn := Try.f28) rfl (by kernel_rfl) rfl (Nat.le_of_ble_eq_true (by kernel_rfl)) ?_
  conv => whnf
  refine CallG.at (ok_copy hs hl) ?_
  conv => whnf
  refine DrawG.q (by kernel_rfl) ?_
  conv => whnf
  refine CallQ.at (ok_l16Good hs p hl hn) ?_
  conv => whnf
  refine Two.mk (fun h => ?_) (fun h => ?_) <;> conv => whnf
  · have e1 : mayT hs p = false := may_no h
    have e2 : takeH hs p = hs := by simp only [takeH, e1, cond_false]
    rw [hm] at e1; rw [hq] at e2; subst e1 e2
    repeat' (first | exact True.intro | exact rfl | (refine FinG.done ?_; conv => whnf) | (refine And.intro ?_ ?_) | exact Nat.le_of_ble_eq_true rfl | (refine Two.no rfl ?_; conv => whnf) | (refine Two.yes rfl ?_; conv => whnf) | (refine Two.no (bne_self_eq_false _) ?_; conv => whnf) | (refine Two.mk (fun h => ?_) (fun h => ?_) <;> conv => whnf))
    all_goals exact row_take rfl
  · obtain ⟨hp, hb, hr⟩ := good_in hl h
    have e0 : mayT hs p = _ := may_yes h
    refine ⟨hp.1, hp.2, ?_⟩
    conv => whnf
    refine Two.mk (fun h2 => ?_) (fun h2 => ?_) <;> conv => whnf
    · have e1 : mayT hs p = false := (by rw [e0]; have h2' : (hs.getD p.toNat hz).down = true := h2; rw [h2']; rfl)
      have e2 : takeH hs p = hs := by simp only [takeH, e1, cond_false]
      rw [hm] at e1; rw [hq] at e2; subst e1 e2
      repeat' (first | exact True.intro | exact rfl | (refine FinG.done ?_; conv => whnf) | (refine And.intro ?_ ?_) | exact Nat.le_of_ble_eq_true rfl | (refine Two.no rfl ?_; conv => whnf) | (refine Two.yes rfl ?_; conv => whnf) | (refine Two.no (bne_self_eq_false _) ?_; conv => whnf) | (refine Two.mk (fun h => ?_) (fun h => ?_) <;> conv => whnf))
      all_goals exact row_take rfl
    · refine ⟨hp.1, hp.2, ?_⟩
      conv => whnf
      refine ⟨hp.1, hp.2, ?_⟩
      conv => whnf
      refine Two.mk (fun h3 => ?_) (fun h3 => ?_) <;> conv => whnf
      · have e1 : mayT hs p = false := (by rw [e0]; have h3' : ((hs.getD p.toNat hz).busy == (hs.getD p.toNat hz).room) = true := h3; rw [beq_iff_eq] at h3'; rw [h3', decide_eq_false (Int.lt_irrefl _), Bool.and_false])
        have e2 : takeH hs p = hs := by simp only [takeH, e1, cond_false]
        rw [hm] at e1; rw [hq] at e2; subst e1 e2
        repeat' (first | exact True.intro | exact rfl | (refine FinG.done ?_; conv => whnf) | (refine And.intro ?_ ?_) | exact Nat.le_of_ble_eq_true rfl | (refine Two.no rfl ?_; conv => whnf) | (refine Two.yes rfl ?_; conv => whnf) | (refine Two.no (bne_self_eq_false _) ?_; conv => whnf) | (refine Two.mk (fun h => ?_) (fun h => ?_) <;> conv => whnf))
        all_goals exact row_take rfl
      · have e1 : mayT hs p = true := (by rw [e0]; have h2' : (hs.getD p.toNat hz).down = false := h2; have h3' : ((hs.getD p.toNat hz).busy == (hs.getD p.toNat hz).room) = false := h3; rw [beq_eq_false_iff_ne] at h3'; rw [h2', decide_eq_true (by omega)]; rfl)
        simp only [takeH, e1, cond_true] at hq
        rw [e1] at hm; subst hm hq
        repeat' (first | exact True.intro | exact rfl | exact hp.1 | exact hp.2 | (refine FinG.done ?_; conv => whnf) | (refine And.intro ?_ ?_) | (refine ⟨hp.1, hp.2, ?_⟩; conv => whnf))
        all_goals (conv => rhs; whnf); exact row_takeN rfl set_len
theorem ok_sgive (hs : List HostV) (p : Int) (hl : hs.length ≤ 1048576) (hn : ∀ h ∈ hs, h.name.size ≤ 1048576) : Ok cx 29 [.one (.row elHost hs), vi p] [] [] [.one (.row elHost (giveH hs p)), .one (.val (.bool (mayG hs p)))] [] [] := by
  generalize hm : mayG hs p = m
  generalize hq : giveH hs p = q
  refine Ok_of_vc (C := cx) cx_ok cx_mix (fn := Try.f29) rfl (by kernel_rfl) rfl (Nat.le_of_ble_eq_true (by kernel_rfl)) ?_
  conv => whnf
  refine CallG.at (ok_copy hs hl) ?_
  conv => whnf
  refine CallG.at (ok_l16Good hs p hl hn) ?_
  conv => whnf
  refine Two.mk (fun h => ?_) (fun h => ?_) <;> conv => whnf
  · have e1 : mayG hs p = false := may_no h
    have e2 : giveH hs p = hs := by simp only [giveH, e1, cond_false]
    rw [hm] at e1; rw [hq] at e2; subst e1 e2
    repeat' (first | exact True.intro | exact rfl | (refine FinG.done ?_; conv => whnf) | (refine And.intro ?_ ?_) | exact Nat.le_of_ble_eq_true rfl | (refine Two.no rfl ?_; conv => whnf) | (refine Two.yes rfl ?_; conv => whnf) | (refine Two.no (bne_self_eq_false _) ?_; conv => whnf) | (refine Two.mk (fun h => ?_) (fun h => ?_) <;> conv => whnf))
    all_goals exact row_take rfl
  · obtain ⟨hp, hb, hr⟩ := good_in hl h
    have e0 : mayG hs p = _ := may_yes h
    refine ⟨hp.1, hp.2, ?_⟩
    conv => whnf
    refine Two.mk (fun h2 => ?_) (fun h2 => ?_) <;> conv => whnf
    · have e1 : mayG hs p = false := (by rw [e0]; have h2' : ((hs.getD p.toNat hz).busy == (0:Int)) = true := h2; rw [beq_iff_eq] at h2'; rw [h2']; rfl)
      have e2 : giveH hs p = hs := by simp only [giveH, e1, cond_false]
      rw [hm] at e1; rw [hq] at e2; subst e1 e2
      repeat' (first | exact True.intro | exact rfl | (refine FinG.done ?_; conv => whnf) | (refine And.intro ?_ ?_) | exact Nat.le_of_ble_eq_true rfl | (refine Two.no rfl ?_; conv => whnf) | (refine Two.yes rfl ?_; conv => whnf) | (refine Two.no (bne_self_eq_false _) ?_; conv => whnf) | (refine Two.mk (fun h => ?_) (fun h => ?_) <;> conv => whnf))
      all_goals exact row_take rfl
    · have e1 : mayG hs p = true := (by rw [e0]; have h2' : ((hs.getD p.toNat hz).busy == (0:Int)) = false := h2; rw [beq_eq_false_iff_ne] at h2'; exact decide_eq_true (by omega))
      simp only [giveH, e1, cond_true] at hq
      rw [e1] at hm; subst hm hq
      repeat' (first | exact True.intro | exact rfl | exact hp.1 | exact hp.2 | (refine FinG.done ?_; conv => whnf) | (refine And.intro ?_ ?_) | (refine ⟨hp.1, hp.2, ?_⟩; conv => whnf))
      all_goals (conv => rhs; whnf); exact row_takeN rfl set_len
end Go.Proofs.Ytjmhffbenbiieaa.Ev
