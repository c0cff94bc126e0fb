/- Part 13: a call by the callee's contract: what comes back. -/
import Derived.Test.YtjmhffbenbiieaaEv12
set_option linter.unusedVariables false
set_option linter.unusedSimpArgs false
namespace Go.Proofs.Ytjmhffbenbiieaa.Ev
open Go.RowKit

/-! ### 1. Lists -/
theorem look_append {β : Type _} (l m : List (Nat × β)) (t : Nat) : look (l ++ m) t = match look l t with
    | some v => some v
    | none => look m t := by
  induction l with
  | nil => rfl
  | cons p l ih =>
    obtain ⟨s, v⟩ := p
    simp only [List.cons_append, look]
    split
    · rfl
    · exact ih
def numb {β : Type _} : Nat → List β → List (Nat × β)
  | _, [] => []
  | n, x :: xs => (n, x) :: numb (n + 1) xs
theorem look_numb {β : Type _} (l : List β) : ∀ (n t : Nat), look (numb n l) t = if n ≤ t then l[t - n]? else none := by
  induction l with
  | nil => intro n t; simp [numb, look]
  | cons x xs ih =>
    intro n t
    simp only [numb, look, ih]
    by_cases h : n = t
    · subst h; simp
    · by_cases h2 : n ≤ t
      · have h3 : n + 1 ≤ t := by omega
        have h4 : t - n = (t - (n + 1)) + 1 := by omega
        rw [if_neg h, if_pos h3, if_pos h2, h4]; simp
      · rw [if_neg h, if_neg (by omega), if_neg h2]
def dels {β : Type _} (l : List (Nat × β)) : List Nat → List (Nat × β)
  | [] => l
  | k :: ks => del (dels l ks) k
theorem look_dels {β : Type _} (l : List (Nat × β)) (ks : List Nat) (u : Nat) : look (dels l ks) u = if u ∈ ks then none else look l u := by
  induction ks with
  | nil => simp [dels]
  | cons k ks ih =>
    simp only [dels, look_del, ih]
    by_cases h : k = u
    · subst h; simp
    · have : ¬ u = k := fun e => h e.symm
      simp [h, this]
theorem look_zip {β : Type _} {ms : List Nat} : ∀ {hs : List β} {t : Nat} {v : β}, look (ms.zip hs) t = some v → ∃ i : Nat, ms[i]? = some t ∧ hs[i]? = some v := by
  induction ms with
  | nil => intro hs t v h; simp [look] at h
  | cons m ms ih =>
    intro hs t v h
    cases hs with
    | nil => simp [look] at h
    | cons x xs =>
      simp only [List.zip_cons_cons, look] at h
      split at h
      · rename_i e; injection h with h; exact ⟨0, by simp [e], by simp [h]⟩
      · obtain ⟨i, h1, h2⟩ := ih h
        exact ⟨i + 1, by simpa using h1, by simpa using h2⟩
theorem look_zip_none {β : Type _} {ms : List Nat} : ∀ {hs : List β} {t : Nat}, ms.length = hs.length → look (ms.zip hs) t = none → t ∉ ms := by
  induction ms with
  | nil => intro hs t _ _; simp
  | cons m ms ih =>
    intro hs t hl h
    cases hs with
    | nil => simp at hl
    | cons x xs =>
      simp only [List.zip_cons_cons, look] at h
      split at h
      · cases h
      · rename_i e
        simp only [List.mem_cons, not_or]
        exact ⟨fun e2 => e e2.symm, ih (by simpa using hl) h⟩
theorem apart_get {l : List (Option Nat)} (h : Apart l) {i j : Nat} {x y : Option Nat} (hi : l[i]? = some x) (hj : l[j]? = some y) (hne : i ≠ j) : ∀ b, x = some b → y ≠ some b := by
  obtain ⟨h1, h2⟩ := List.getElem?_eq_some_iff.1 hi
  obtain ⟨h3, h4⟩ := List.getElem?_eq_some_iff.1 hj
  have hp := List.pairwise_iff_getElem.1 h
  intro b hb hb2
  rcases Nat.lt_or_gt_of_ne hne with hlt | hlt
  · exact hp i j h1 h3 hlt b (by rw [h2, hb]) (by rw [h4, hb2])
  · exact hp j i h3 h1 hlt b (by rw [h4, hb2]) (by rw [h2, hb])

/-! ### 2. What comes back -/
/-- The cells of an object, its old cells at hand; its new rows are numbered from n. -/
def imCells (os : List Nat) : Nat → List SC → List OC → List SC
  | _, _, [] => []
  | n, old, .own el xs :: oc => .ref n xs.length :: imCells os (n + 1) old.tail oc
  | n, old, .val v :: oc => .val v :: imCells os n old.tail oc
  | n, old, .keep :: oc => old.headD .undef :: imCells os n old.tail oc
  | n, old, .ptr k :: oc => (match os[k]? with
    | some o => .ptr o 0
    | none => .undef) :: imCells os n old.tail oc
  | n, old, .ro _ _ :: oc => .undef :: imCells os n old.tail oc
  | n, old, .any :: oc => .undef :: imCells os n old.tail oc
def imR1 (os ms : List Nat) : Nat → RC1 → SC
  | _, .val v => .val v
  | n, .row el xs => .ref n xs.length
  | _, .al k n => match ms[k]? with
    | some r => .ref r n
    | none => .undef
  | _, .ptr k off => match os[k]? with
    | some o => .ptr o off
    | none => .undef
def imR1s (os ms : List Nat) : Nat → List RC1 → List SC
  | _, [] => []
  | n, c :: cs => imR1 os ms n c :: imR1s os ms (n + (ownRows1 [c]).length) cs
def imR (os ms : List Nat) (n : Nat) : RC → PV
  | .one c => .one (imR1 os ms n c)
  | .agg cs => .agg (imR1s os ms n cs)
def imRs (os ms : List Nat) : Nat → List RC → List PV
  | _, [] => []
  | n, c :: cs => imR os ms n c :: imRs os ms (n + (ownRowsC c).length) cs
def packS : List PV → SV
  | [p] => .pv p
  | ps => .tup ps
def ownRowsO : List HO → List Row
  | [] => []
  | h :: hs => ownRows h.ecs ++ ownRowsO hs
def ownRowsRs : List RC → List Row
  | [] => []
  | c :: cs => ownRowsC c ++ ownRowsRs cs
/-- The objects that come back. -/
def imObs (st : St) (os : List Nat) : Nat → List Nat → List HO → List Ob
  | n, o :: l, h :: hs => (match h.own with
    | true => ⟨h.T, imCells os n (match look st.ob o with
      | some ob => ob.cs
      | none => []) h.cs, true⟩
    | false => match look st.ob o with
      | some ob => ob
      | none => ⟨0, [], false⟩) :: imObs st os (n + (ownRows h.ecs).length) l hs
  | _, _, _ => []
/-- The state behind a call: objects os and rows ms had been handed over; they came back as ho', hm'; res are the results. -/
def St.back (st : St) (rd : Bool) (os ms : List Nat) (ho' : List HO) (hm' : List Row) (res : List RC) : St :=
  { st with
    rw := numb st.nx (ownRowsO ho' ++ ownRowsRs res) ++ (ms.zip hm' ++ dels st.rw (exKn st rd os))
    ob := os.zip (imObs st os st.nx os ho') ++ st.ob
    nx := st.nx + (ownRowsO ho' ++ ownRowsRs res).length }
/-- What the results are. -/
def St.backV (st : St) (os ms : List Nat) (ho' : List HO) (res : List RC) : SV := packS (imRs os ms (st.nx + (ownRowsO ho').length) res)

/-- From name n on lie these rows, at these values. -/
def At (ρ : Rho) (st : St) (n : Nat) (vs : List Value) (rows : List Row) : Prop :=
  vs.length = rows.length ∧ ∀ i v row, vs[i]? = some v → rows[i]? = some row → ρ.rs (n + i) = v ∧ look st.rw (n + i) = some row ∧ n + i < st.nx
theorem At.left {ρ : Rho} {st : St} {n : Nat} {vs vs' : List Value} {rows rows' : List Row} (h : At ρ st n (vs ++ vs') (rows ++ rows')) (hl : vs.length = rows.length) : At ρ st n vs rows := by
  refine ⟨hl, fun i v row h1 h2 => h.2 i v row ?_ ?_⟩
  · rw [List.getElem?_append_left (List.getElem?_eq_some_iff.1 h1).1]; exact h1
  · rw [List.getElem?_append_left (List.getElem?_eq_some_iff.1 h2).1]; exact h2
theorem At.right {ρ : Rho} {st : St} {n : Nat} {vs vs' : List Value} {rows rows' : List Row} (h : At ρ st n (vs ++ vs') (rows ++ rows')) (hl : vs.length = rows.length) : At ρ st (n + rows.length) vs' rows' := by
  have h0 := h.1
  simp only [List.length_append] at h0
  refine ⟨by omega, fun i v row h1 h2 => ?_⟩
  have := h.2 (rows.length + i) v row (by rw [List.getElem?_append_right (by omega)]; rw [← h1]; congr 1; omega) (by rw [List.getElem?_append_right (by omega)]; rw [← h2]; congr 1; omega)
  rwa [← Nat.add_assoc] at this

theorem own_slice {w : World} {b e s n : Nat} {v : Value} {xs : List Value} (h : w.ownsRow b e s v n xs) : ∃ A c, v = .slice A n c := by
  rcases h.2 with ⟨e1, e2⟩ | ⟨g, cap, cur, e1, _⟩
  · exact ⟨none, 0, by rw [e1, e2]⟩
  · exact ⟨_, _, e1⟩

section
variable {C : Cx} {w0 : World} {F : Nat → Prop} {G : List Nat} {U : List Value} {nt : Nat} {ρ ρ' : Rho} {st st' : St} {a : Act} {w w' : World}

theorem at_ref {n : Nat} {vs : List Value} {rows : List Row} {v : Value} {el : El} {xs : List el.α} (h : At ρ' st' n (v :: vs) (⟨true, el, xs⟩ :: rows)) (ho : w'.ownsRow 0 el.T el.sz v xs.length (el.flat xs)) : scOk ρ' st' v (.ref n xs.length) := by
  obtain ⟨h1, h2, h3⟩ := h.2 0 v _ rfl rfl
  rw [Nat.add_zero] at h1 h2 h3
  refine ⟨h3, fun row hrow => ?_⟩
  rw [h2] at hrow; injection hrow with hrow; subst hrow
  obtain ⟨A, c, e⟩ := own_slice ho
  exact ⟨A, xs.length, c, by rw [h1, e], e, Nat.le_refl _⟩
theorem At.tl {n : Nat} {vs : List Value} {rows : List Row} {v : Value} {row : Row} (h : At ρ' st' n (v :: vs) (row :: rows)) : At ρ' st' (n + 1) vs rows := by
  have := At.right (vs := [v]) (rows := [row]) h rfl
  exact this

theorem imCells_ok {os : List Nat} {B : Nat → Prop} (hsc : ∀ v c, scOk ρ st v c → scOk ρ' st' v c) (hos : ∀ o ∈ os, o < st'.nx) (hρ : ρ'.os = ρ.os) : ∀ {oc : List OC} {n : Nat} {old : List SC} {vs vs' : List Value},
    All2 (scOk ρ st) vs old → All2 (ocOk C.P w' B (os.map ρ.os)) vs' oc → Kept vs vs' oc → At ρ' st' n (ownVals vs' oc) (ownRows oc) → All2 (scOk ρ' st') vs' (imCells os n old oc)
  | [], n, old, vs, _, h1, .nil, hk, ha => .nil
  | c :: oc, n, old, vs, _, h1, .cons (x := v') (xs := vs') hc hr, hk, ha => by
    have htl : All2 (scOk ρ st) vs.tail old.tail := by cases h1 <;> simp <;> first | exact .nil | assumption
    have hkt : Kept vs.tail vs' oc := by
      cases vs with
      | nil => cases oc <;> simp [Kept]
      | cons v vs =>
        cases c <;> simp only [Kept] at hk <;> first | exact hk | exact hk.2
    cases c with
    | val x => exact .cons hc (imCells_ok hsc hos hρ htl hr hkt ha)
    | own el xs => exact .cons (at_ref ha hc.2) (imCells_ok hsc hos hρ htl hr hkt ha.tl)
    | ro el xs => exact .cons trivial (imCells_ok hsc hos hρ htl hr hkt ha)
    | any => exact .cons trivial (imCells_ok hsc hos hρ htl hr hkt ha)
    | ptr k =>
      refine .cons ?_ (imCells_ok hsc hos hρ htl hr hkt ha)
      obtain ⟨g, hg, e⟩ := hc
      rw [List.getElem?_map] at hg
      cases e2 : os[k]? with
      | none => exact trivial
      | some o =>
        rw [e2] at hg; simp only [Option.map_some] at hg; injection hg with hg
        exact ⟨hos o (List.mem_of_getElem? e2), fun ob _ => by rw [e, ← hg, hρ]⟩
    | keep =>
      refine .cons ?_ (imCells_ok hsc hos hρ htl hr hkt ha)
      cases h1 with
      | nil => exact trivial
      | cons hx _ =>
        simp only [Kept] at hk
        rw [hk.1]
        exact hsc _ _ hx
/-- The names of the objects and rows that had been handed over still mean what they meant. -/
structure Names (ρ ρ' : Rho) (st' : St) (os ms : List Nat) : Prop where
  lo : ∀ o ∈ os, o < st'.nx
  eo : ρ'.os = ρ.os
  lr : ∀ r ∈ ms, r < st'.nx
  er : ∀ r ∈ ms, ρ'.rs r = ρ.rs r
  wr : ∀ r ∈ ms, ∀ row, look st'.rw r = some row → ∃ A c, ρ.rs r = .slice A row.xs.length c
theorem imR1_ok {os ms : List Nat} (hN : Names ρ ρ' st' os ms) : ∀ {c : RC1} {n : Nat} {v : Value}, rcOk1 C.P w' (os.map ρ.os) (ms.map ρ.rs) v c → At ρ' st' n (ownVals1 [v] [c]) (ownRows1 [c]) → scOk ρ' st' v (imR1 os ms n c) := by
  intro c n v h ha
  cases c with
  | val x => exact h
  | row el xs => exact at_ref (vs := []) (rows := []) ha h.2
  | al k m =>
    obtain ⟨A, m', c, h1, h2, h3⟩ := h
    rw [List.getElem?_map] at h1
    simp only [imR1]
    split
    · rename_i r e
      rw [e] at h1; simp only [Option.map_some, Option.some.injEq] at h1
      have hr := List.mem_of_getElem? e
      refine ⟨hN.lr r hr, fun row hrow => ?_⟩
      obtain ⟨A', c', e2⟩ := hN.wr r hr row hrow
      rw [h1] at e2; injection e2 with a1 a2 a3
      exact ⟨A, m', c, by rw [hN.er r hr, h1], h2, by omega⟩
    · trivial
  | ptr k off =>
    obtain ⟨g, h1, h2⟩ := h
    rw [List.getElem?_map] at h1
    simp only [imR1]
    split
    · rename_i o e
      rw [e] at h1; simp only [Option.map_some, Option.some.injEq] at h1
      exact ⟨hN.lo o (List.mem_of_getElem? e), fun ob _ => by rw [h2, hN.eo, h1]⟩
    · trivial
theorem ownVals1_cons (v : Value) (c : RC1) (vs : List Value) (cs : List RC1) : ownVals1 (v :: vs) (c :: cs) = ownVals1 [v] [c] ++ ownVals1 vs cs := by cases c <;> rfl
theorem ownRows1_cons (c : RC1) (cs : List RC1) : ownRows1 (c :: cs) = ownRows1 [c] ++ ownRows1 cs := by cases c <;> rfl
theorem own1_len (v : Value) (c : RC1) : (ownVals1 [v] [c]).length = (ownRows1 [c]).length := by cases c <;> rfl
theorem imR1s_ok {os ms : List Nat} (hN : Names ρ ρ' st' os ms) : ∀ {cs : List RC1} {n : Nat} {vs : List Value}, All2 (rcOk1 C.P w' (os.map ρ.os) (ms.map ρ.rs)) vs cs → At ρ' st' n (ownVals1 vs cs) (ownRows1 cs) → All2 (scOk ρ' st') vs (imR1s os ms n cs)
  | [], n, _, .nil, ha => .nil
  | c :: cs, n, _ :: _, .cons hc hr, ha => by
    rw [ownVals1_cons, ownRows1_cons] at ha
    exact .cons (imR1_ok hN hc (ha.left (own1_len _ _))) (imR1s_ok hN hr (ha.right (own1_len _ _)))
theorem imR_ok {os ms : List Nat} (hN : Names ρ ρ' st' os ms) {c : RC} {n : Nat} {v : Value} (h : rcOk C.P w' (os.map ρ.os) (ms.map ρ.rs) v c) (ha : At ρ' st' n (ownValsC v c) (ownRowsC c)) : pvOk ρ' st' v (imR os ms n c) := by
  cases c with
  | one c => exact imR1_ok hN h ha
  | agg cs =>
    obtain ⟨vs, rfl, hv⟩ := h
    exact ⟨vs, rfl, imR1s_ok hN hv (by simpa [ownValsC, ownRowsC, Value.cells] using ha)⟩
theorem ownVals_len {P : Program} {B : Nat → Prop} {gs : List Nat} : ∀ {vs : List Value} {cs : List OC}, All2 (ocOk P w' B gs) vs cs → (ownVals vs cs).length = (ownRows cs).length
  | _, _, .nil => rfl
  | _, _, .cons (y := c) _ hr => by
    have ih := ownVals_len hr
    cases c <;> simp [ownVals, ownRows, ih]
theorem ownVals1_len {P : Program} {gs : List Nat} {us : List Value} : ∀ {vs : List Value} {cs : List RC1}, All2 (rcOk1 P w' gs us) vs cs → (ownVals1 vs cs).length = (ownRows1 cs).length
  | _, _, .nil => rfl
  | _, _, .cons (y := c) _ hr => by
    have ih := ownVals1_len hr
    cases c <;> simp [ownVals1, ownRows1, ih]
theorem ownValsC_len {P : Program} {gs : List Nat} {us : List Value} {v : Value} {c : RC} (h : rcOk P w' gs us v c) : (ownValsC v c).length = (ownRowsC c).length := by
  cases c with
  | one c => cases c <;> rfl
  | agg cs => obtain ⟨vs, rfl, hv⟩ := h; simpa [ownValsC, ownRowsC, Value.cells] using ownVals1_len hv
theorem imRs_ok {os ms : List Nat} (hN : Names ρ ρ' st' os ms) : ∀ {cs : List RC} {n : Nat} {vs : List Value}, All2 (rcOk C.P w' (os.map ρ.os) (ms.map ρ.rs)) vs cs → At ρ' st' n (ownValsR vs cs) (ownRowsRs cs) → All2 (pvOk ρ' st') vs (imRs os ms n cs)
  | [], n, _, .nil, ha => .nil
  | c :: cs, n, _ :: _, .cons hc hr, ha => .cons (imR_ok hN hc (ha.left (ownValsC_len hc))) (imRs_ok hN hr (ha.right (ownValsC_len hc)))
theorem pack_ok {vs : List Value} {ps : List PV} (h : All2 (pvOk ρ' st') vs ps) : svOk ρ' st' (packV vs) (packS ps) := by
  cases h with
  | nil => exact ⟨[], rfl, .nil⟩
  | cons h1 h2 =>
    cases h2 with
    | nil => exact h1
    | cons h3 h4 => exact ⟨_, rfl, .cons h1 (.cons h3 h4)⟩
end
end Go.Proofs.Ytjmhffbenbiieaa.Ev
