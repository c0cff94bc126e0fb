/- Part 23: a function's contract by its code. -/
import Derived.Test.YtjmhffbenbiieaaEv22
set_option linter.unusedVariables false
set_option linter.unusedSimpArgs false
namespace Go.Proofs.Ytjmhffbenbiieaa.Ev
open Go.RowKit

/-! ### The state at the end -/
def outV (C : Cx) (st : St) : ResultVar → Option PV
  | .tmp t => match ev st (.tmp t) with
    | .pv p => some p
    | _ => none
  | .cell a T => match C.lay T, ev st (.tmp a) with
    | some l, .pv (.one (.ptr q off)) => match look st.ob q with
      | some ob => match ldCells l ob.cs off with
        | some (.pv p) => some p
        | _ => none
      | none => none
    | _, _ => none
def ownP (st : St) (r n : Nat) (row' : Row) : Prop := match look st.rw r with
  | some row => row.own = true ∧ row' = ⟨true, row.el, row.xs.take n⟩
  | none => False
def rc1P (st : St) (pr : List Nat) : SC → RC1 → Prop
  | .val v, .val v' => v' = v
  | .ref r n, .row el xs => ownP st r n ⟨true, el, xs⟩
  | .ref r n, .al k n' => n' = n ∧ pr[k]? = some r ∧ (look st.rw r).isSome = true
  | .ptr o off, .ptr k off' => off' = off ∧ st.po[k]? = some o ∧ (look st.ob o).isSome = true
  | _, _ => False
def rcs1P (st : St) (pr : List Nat) : List SC → List RC1 → Prop
  | [], [] => True
  | c :: cs, r :: rs => rc1P st pr c r ∧ rcs1P st pr cs rs
  | _, _ => False
def rcP (st : St) (pr : List Nat) : PV → RC → Prop
  | .one c, .one r => rc1P st pr c r
  | .agg cs, .agg rs => rcs1P st pr cs rs
  | _, _ => False
def rcsP (st : St) (pr : List Nat) : List PV → List RC → Prop
  | [], [] => True
  | c :: cs, r :: rs => rcP st pr c r ∧ rcsP st pr cs rs
  | _, _ => False
def kn1 : SC → RC1 → List Nat
  | .ref r _, .row _ _ => [r]
  | _, _ => []
def kns1 : List SC → List RC1 → List Nat
  | c :: cs, r :: rs => kn1 c r ++ kns1 cs rs
  | _, _ => []
def knP : PV → RC → List Nat
  | .one c, .one r => kn1 c r
  | .agg cs, .agg rs => kns1 cs rs
  | _, _ => []
def knsP : List PV → List RC → List Nat
  | c :: cs, r :: rs => knP c r ++ knsP cs rs
  | _, _ => []
def ocP (st0 st : St) : SC → SC → OC → Prop
  | _, .val v, .val v' => v' = v
  | _, .ref r n, .own el xs => ownP st r n ⟨true, el, xs⟩
  | _, .ptr o 0, .ptr k => idx st.po o = some k
  | .ref r0 n0, .ref r n, .keep => n = n0 ∧ match idx st.pr r, look st.rw r, look st0.rw r0 with
    | some j, some _, some _ => st0.pr[j]? = some r0
    | _, _, _ => False
  | .val v, .val v', .keep => v' = v
  | _, _, .any => True
  | _, _, _ => False
def ocsP (st0 st : St) : List SC → List SC → List OC → Prop
  | [], [], [] => True
  | i :: is, c :: cs, o :: os => ocP st0 st i c o ∧ ocsP st0 st is cs os
  | _, _, _ => False
def knC : List SC → List OC → List Nat
  | .ref r _ :: cs, .own _ _ :: os => r :: knC cs os
  | _ :: cs, _ :: os => knC cs os
  | _, _ => []
def hoP (st0 st : St) : List Ob → List Nat → List HO → Prop
  | [], [], [] => True
  | b :: bs, o :: os, h :: hs => (match look st.ob o with
    | some ob => ob.own = h.own ∧ b.own = h.own ∧ (match h.own with
      | true => h.T = ob.T ∧ ocsP st0 st b.cs ob.cs h.cs
      | false => True)
    | none => False) ∧ hoP st0 st bs os hs
  | _, _, _ => False
def knH (st : St) : List Nat → List HO → List Nat
  | o :: os, h :: hs => (match h.own with
    | true => match look st.ob o with
      | some ob => knC ob.cs h.cs
      | none => []
    | false => []) ++ knH st os hs
  | _, _ => []
def hmP (st : St) : List Nat → List Row → Prop
  | [], [] => True
  | r :: rs, row' :: rows => (match look st.rw r with
    | some row => row.own = true ∧ row' = row
    | none => False) ∧ hmP st rs rows
  | _, _ => False
def exitP (C : Cx) (results : List ResultVar) (st0 : St) (obs0 : List Ob) (hm : List Row) (res : List RC) (ho' : List HO) (hm' : List Row) (st : St) : Prop :=
  match mapO (outV C st) results with
  | some ps => (nodupB st.po = true ∧ nodupB (st.pr.take hm.length ++ (knH st st.po ho' ++ knsP ps res)) = true) ∧ rcsP st (st.pr.take hm.length) ps res ∧ hoP st0 st obs0 st.po ho' ∧ hmP st (st.pr.take hm.length) hm' ∧
      hm'.map (fun r => r.xs.length) = hm.map (fun r => r.xs.length) ∧ hm'.map (fun r => r.el.sz) = hm.map (fun r => r.el.sz)
  | none => False

section
variable {C : Cx} {w0 : World} {F : Nat → Prop} {G : List Nat} {U : List Value} {nt : Nat} {ρ ρ0 : Rho} {st st0 : St} {a : Act} {w : World} {P : Program} {B : Nat → Prop} {gs : List Nat} {us : List Value}

def resOne (a : Act) : ResultVar → Sem Value
  | .tmp t => pure (a.tmps.getD t undef)
  | .cell b t => do loadVar t (← asAddr (a.tmps.getD b undef))
theorem run_outV (hC : C.Ok) (h : Rel C.P w0 F G U nt ρ st a w) {r : ResultVar} {p : PV} (hp : outV C st r = some p) : ∃ v, (resOne a r).run C.P w = .ok v w ∧ pvOk ρ st v p := by
  cases r with
  | tmp t =>
    simp only [outV] at hp
    split at hp
    · rename_i p' e
      injection hp with hp; subst hp
      have := ev_ok h (.tmp t)
      rw [e] at this
      exact ⟨_, rfl, this⟩
    · cases hp
  | cell b T =>
    simp only [outV] at hp
    split at hp
    · rename_i l q off e1 e2
      split at hp
      · rename_i ob e3
        split at hp
        · rename_i p' e4
          injection hp with hp; subst hp
          have hr := does_load_ptr (o := { dst := none, op := .load T (.tmp b), type := 0, pos := "", after := #[], guard := none }) hC h rfl e1 e2 e3 e4
          obtain ⟨v, h1, h2⟩ := hr
          have hv := ev_ok h (.tmp b)
          rw [e2] at hv
          have hpt : a.tmps.getD b undef = .pointer (some ⟨ρ.os q, off, none⟩) := hv.2 ob e3
          refine ⟨v, ?_, h2⟩
          have hpt' : a.eval (.tmp b) = .pointer (some ⟨ρ.os q, off, none⟩) := hpt
          simp only [execOp, Instr.loadAt, Instr.sureAddr, hpt', Sem.run_bind, Sem.run_pure, Result.andThen_ok] at h1
          simp only [resOne, hpt, asAddr, Sem.run_bind, Sem.run_pure, Result.andThen_ok]
          cases hl : (loadVar T ⟨ρ.os q, off, none⟩).run C.P w with
          | ok u w' => rw [hl] at h1; simp at h1; rw [h1.1, h1.2]
          | halt x w' => rw [hl] at h1; simp [Result.andThen] at h1
        · cases hp
      · cases hp
    · cases hp
theorem run_results (hC : C.Ok) (h : Rel C.P w0 F G U nt ρ st a w) {fn : Func} {ps : List PV} (hp : mapO (outV C st) fn.results.toList = some ps) : ∃ rv, (results fn a.tmps).run C.P w = .ok (packV rv) w ∧ All2 (pvOk ρ st) rv ps := by
  have key : ∀ {l : List ResultVar} {ps : List PV}, All2 (fun x y => outV C st x = some y) l ps → ∃ rv, (l.mapM (m := Sem) (resOne a)).run C.P w = .ok rv w ∧ All2 (pvOk ρ st) rv ps := by
    intro l ps hl
    induction hl with
    | nil => exact ⟨[], rfl, .nil⟩
    | @cons x y xs ys hx _ ih =>
      obtain ⟨v, h1, h2⟩ := run_outV hC h hx
      obtain ⟨rv, h3, h4⟩ := ih
      refine ⟨v :: rv, ?_, .cons h2 h4⟩
      rw [List.mapM_cons, Sem.run_bind, h1]
      simp only [Result.andThen_ok, Sem.run_bind, h3, Sem.run_pure]
  obtain ⟨rv, h1, h2⟩ := key (mapO_ok hp)
  refine ⟨rv, ?_, h2⟩
  have hm : (fn.results.mapM (m := Sem) (resOne a)).run C.P w = .ok rv.toArray w := by
    rw [← Array.toArray_toList (xs := fn.results), List.mapM_toArray]
    rw [Sem.run_map, h1]; rfl
  have hres : results fn a.tmps = (do let vs ← fn.results.mapM (resOne a); pure (if h : vs.size = 1 then vs[0] else .tuple vs)) := rfl
  rw [hres, Sem.run_bind, hm]
  simp only [Result.andThen_ok, Sem.run_pure]
  congr 1
  cases rv with
  | nil => rfl
  | cons v rv =>
    cases rv with
    | nil => rfl
    | cons u rv => simp [packV]

theorem ownP_ok (hm : Mem C.P w0 F ρ st w) {v : Value} {r n : Nat} {row' : Row} (hv : scOk ρ st v (.ref r n)) (hp : ownP st r n row') : (row'.el.Ok C.P ∧ w.ownsRow 0 row'.el.T row'.el.sz v row'.xs.length (row'.el.flat row'.xs)) ∧ v.ownBlock = (ρ.rs r).ownBlock ∧ ∃ row, look st.rw r = some row ∧ row.own = true := by
  unfold ownP at hp
  split at hp
  · rename_i row e
    obtain ⟨ho, rfl⟩ := hp
    obtain ⟨A, m, c, e1, e2, hn⟩ := hv.2 row e
    have hrow := hm.row r row e
    have h2 := hrow.2
    rw [if_pos ho] at h2
    have h3 := h2.1
    rw [e1] at h3
    refine ⟨⟨hrow.1, ?_⟩, by rw [e1, e2]; cases A <;> rfl, row, e, ho⟩
    rw [e2]
    exact own_prefix hrow.1 h3 hn
  · cases hp

theorem rcs1P_ok (hm : Mem C.P w0 F ρ st w) {pr : List Nat} (hpo : st.po.map ρ.os = gs) (hus : pr.map ρ.rs = us) : ∀ {vs : List Value} {cs : List SC} {rs : List RC1}, All2 (scOk ρ st) vs cs → rcs1P st pr cs rs → All2 (rcOk1 C.P w gs us) vs rs ∧ (ownVals1 vs rs).map Value.ownBlock = (kns1 cs rs).map (fun r => (ρ.rs r).ownBlock) ∧ ∀ r ∈ kns1 cs rs, ∃ row, look st.rw r = some row ∧ row.own = true
  | _, _, [], .nil, _ => ⟨.nil, rfl, by simp [kns1]⟩
  | _, _, _ :: _, .nil, hp => by cases hp
  | _, _, [], .cons _ _, hp => by cases hp
  | _, _, r :: rs, .cons (x := v) (y := c) hx hr, hp => by
    obtain ⟨i1, i2, i3⟩ := rcs1P_ok hm hpo hus hr hp.2
    have h1 := hp.1
    cases r with
    | val x =>
      cases c <;> simp only [rc1P] at h1
      exact ⟨.cons ((show v = _ from hx).trans h1.symm) i1, by simpa [ownVals1, kns1, kn1] using i2, by simpa [kns1, kn1] using i3⟩
    | row el xs =>
      cases c <;> simp only [rc1P] at h1
      obtain ⟨g1, g2, g3⟩ := ownP_ok hm hx h1
      refine ⟨.cons g1 i1, by simp [ownVals1, kns1, kn1, g2, i2], fun r' hr' => ?_⟩
      simp only [kns1, kn1, List.singleton_append, List.mem_cons] at hr'
      rcases hr' with rfl | hr'
      · exact g3
      · exact i3 r' hr'
    | al k n' =>
      cases c <;> simp only [rc1P] at h1
      rename_i r n
      obtain ⟨rfl, h2, h3⟩ := h1
      rw [Option.isSome_iff_exists] at h3
      obtain ⟨row, e⟩ := h3
      obtain ⟨A, m, c, e1, e2, e3⟩ := hx.2 row e
      obtain ⟨A', c', e4, _⟩ := row_rd (hm.row r row e)
      rw [e1] at e4; injection e4 with _ e5 _
      exact ⟨.cons ⟨A, m, c, by rw [← hus, List.getElem?_map, h2]; simp [e1], e2, by omega⟩ i1, by simpa [ownVals1, kns1, kn1] using i2, by simpa [kns1, kn1] using i3⟩
    | ptr k off' =>
      cases c <;> simp only [rc1P] at h1
      rename_i o off
      obtain ⟨rfl, h2, h3⟩ := h1
      rw [Option.isSome_iff_exists] at h3
      obtain ⟨ob, e⟩ := h3
      exact ⟨.cons ⟨ρ.os o, by rw [← hpo, List.getElem?_map, h2]; rfl, hx.2 ob e⟩ i1, by simpa [ownVals1, kns1, kn1] using i2, by simpa [kns1, kn1] using i3⟩
theorem rcP_ok (hm : Mem C.P w0 F ρ st w) {pr : List Nat} (hpo : st.po.map ρ.os = gs) (hus : pr.map ρ.rs = us) {v : Value} {p : PV} {r : RC} (hv : pvOk ρ st v p) (hp : rcP st pr p r) : rcOk C.P w gs us v r ∧ (ownValsC v r).map Value.ownBlock = (knP p r).map (fun r => (ρ.rs r).ownBlock) ∧ ∀ x ∈ knP p r, ∃ row, look st.rw x = some row ∧ row.own = true := by
  cases p with
  | one c =>
    cases r with
    | agg rs => cases hp
    | one r =>
      obtain ⟨h1, h2, h3⟩ := rcs1P_ok hm hpo hus (vs := [v]) (cs := [c]) (rs := [r]) (.cons hv .nil) ⟨hp, trivial⟩
      cases h1 with
      | cons h1 _ => exact ⟨h1, by simpa [ownValsC, knP, kns1] using h2, by simpa [knP, kns1] using h3⟩
  | agg cs =>
    cases r with
    | one r => cases hp
    | agg rs =>
      obtain ⟨vs, rfl, hvs⟩ := hv
      obtain ⟨h1, h2, h3⟩ := rcs1P_ok hm hpo hus hvs hp
      exact ⟨⟨vs, rfl, h1⟩, by simpa [ownValsC, knP, Value.cells] using h2, h3⟩
theorem rcsP_ok (hm : Mem C.P w0 F ρ st w) {pr : List Nat} (hpo : st.po.map ρ.os = gs) (hus : pr.map ρ.rs = us) : ∀ {vs : List Value} {ps : List PV} {rs : List RC}, All2 (pvOk ρ st) vs ps → rcsP st pr ps rs → All2 (rcOk C.P w gs us) vs rs ∧ (ownValsR vs rs).map Value.ownBlock = (knsP ps rs).map (fun r => (ρ.rs r).ownBlock) ∧ ∀ x ∈ knsP ps rs, ∃ row, look st.rw x = some row ∧ row.own = true
  | _, _, [], .nil, _ => ⟨.nil, rfl, by simp [knsP]⟩
  | _, _, _ :: _, .nil, hp => by cases hp
  | _, _, [], .cons _ _, hp => by cases hp
  | _, _, r :: rs, .cons hx hr, hp => by
    obtain ⟨i1, i2, i3⟩ := rcsP_ok hm hpo hus hr hp.2
    obtain ⟨g1, g2, g3⟩ := rcP_ok hm hpo hus hx hp.1
    refine ⟨.cons g1 i1, by simp only [ownValsR, knsP, List.map_append, g2, i2], fun x hx => ?_⟩
    simp only [knsP, List.mem_append] at hx
    rcases hx with hx | hx
    · exact g3 x hx
    · exact i3 x hx

theorem pr_get {l l0 : List Nat} (hpr : l.map ρ.rs = l0.map ρ0.rs) {j r r0 : Nat} (h1 : l[j]? = some r) (h2 : l0[j]? = some r0) : ρ.rs r = ρ0.rs r0 := by
  have := congrArg (fun m => m[j]?) hpr
  simpa [h1, h2] using this
/-- The cells of an object at the end. -/
theorem ocsP_ok (hm : Mem C.P w0 F ρ st w) (hpr : st.pr.map ρ.rs = st0.pr.map ρ0.rs) (hpo : st.po.map ρ.os = gs) (hobs : ∀ o ∈ st.po, ∃ ob, look st.ob o = some ob) : ∀ {vs0 vs : List Value} {is cs : List SC} {os : List OC}, All2 (scOk ρ0 st0) vs0 is → All2 (scOk ρ st) vs cs → ocsP st0 st is cs os →
    All2 (ocOk C.P w B gs) vs os ∧ Kept vs0 vs os ∧ (ownVals vs os).map Value.ownBlock = (knC cs os).map (fun r => (ρ.rs r).ownBlock) ∧ ∀ x ∈ knC cs os, ∃ row, look st.rw x = some row ∧ row.own = true
  | _, _, [], [], [], .nil, .nil, _ => ⟨.nil, by simp [Kept], rfl, by simp [knC]⟩
  | _, _, [], [], _ :: _, .nil, .nil, hp => by cases hp
  | _, _, [], _ :: _, _, .nil, .cons _ _, hp => by cases hp
  | _, _, _ :: _, [], _, .cons _ _, .nil, hp => by cases hp
  | _, _, _ :: _, _ :: _, [], .cons _ _, .cons _ _, hp => by cases hp
  | _, _, i :: is, c :: cs, o :: os, .cons (x := v0) (xs := vs0) h0 hr0, .cons (x := v) (xs := vs) hx hr, hp => by
    obtain ⟨i1, i2, i3, i4⟩ := ocsP_ok hm hpr hpo hobs hr0 hr hp.2
    have h1 := hp.1
    cases o with
    | val x =>
      cases c <;> simp only [ocP] at h1
      exact ⟨.cons ((show v = _ from hx).trans h1.symm) i1, by simpa [Kept] using i2, by simpa [ownVals, knC] using i3, by simpa [knC] using i4⟩
    | own el xs =>
      cases c <;> simp only [ocP] at h1
      obtain ⟨g1, g2, g3⟩ := ownP_ok hm hx h1
      refine ⟨.cons g1 i1, by simpa [Kept] using i2, by simp [ownVals, knC, g2, i3], fun r' hr' => ?_⟩
      simp only [knC, List.mem_cons] at hr'
      rcases hr' with rfl | hr'
      · exact g3
      · exact i4 r' hr'
    | ro el xs => cases c <;> simp only [ocP] at h1
    | ptr k =>
      cases c with
      | ptr o off =>
        cases off with
        | zero =>
          simp only [ocP] at h1
          have hg := idx_get h1
          obtain ⟨ob, e⟩ := hobs o (List.mem_of_getElem? hg)
          refine ⟨.cons ⟨ρ.os o, by rw [← hpo, List.getElem?_map, hg]; rfl, hx.2 ob e⟩ i1, by simpa [Kept] using i2, by simpa [ownVals, knC] using i3, by simpa [knC] using i4⟩
        | succ _ => simp only [ocP] at h1
      | _ => simp only [ocP] at h1
    | any =>
      refine ⟨.cons trivial i1, by simpa [Kept] using i2, ?_, ?_⟩
      · cases c <;> simpa [ownVals, knC] using i3
      · cases c <;> simpa [knC] using i4
    | keep =>
      have hv : v = v0 := by
        cases i with
        | val x =>
          cases c <;> simp only [ocP] at h1
          rw [show v = _ from hx, show v0 = x from h0, h1]
        | ref r0 n0 =>
          cases c <;> simp only [ocP] at h1
          obtain ⟨rfl, h1⟩ := h1
          split at h1
          · rename_i j row row0 e1 e2 e3
            obtain ⟨A, m, c, g1, g2, _⟩ := hx.2 row e2
            obtain ⟨A', m', c', g1', g2', _⟩ := h0.2 row0 e3
            have := pr_get hpr (idx_get e1) h1
            rw [g1, g1'] at this
            injection this with a1 a2 a3
            rw [g2, g2', a1, a3]
          · cases h1
        | _ => cases c <;> simp only [ocP] at h1
      refine ⟨.cons trivial i1, by simpa [Kept] using ⟨hv, i2⟩, ?_, ?_⟩
      · cases c <;> simpa [ownVals, knC] using i3
      · cases c <;> simpa [knC] using i4
theorem hoP_ok (hm : Mem C.P w0 F ρ st w) (hpr : st.pr.map ρ.rs = st0.pr.map ρ0.rs) (hpo : st.po.map ρ.os = gs) (hobs : ∀ o ∈ st.po, ∃ ob, look st.ob o = some ob) {R : Nat → List Value → Ob → Prop} : ∀ {l : List Nat} {gs0 : List Nat} {cv : List (List Value)} {obs0 : List Ob} {ho' : List HO}, All3 (fun g vs (ob : Ob) => R g vs ob ∧ All2 (scOk ρ0 st0) vs ob.cs) gs0 cv obs0 → hoP st0 st obs0 l ho' →
    ∃ cv', (∀ B, All3 (fun g vs (h : HO) => h.own = true → objOk C.P w B gs g vs h) (l.map ρ.os) cv' ho') ∧ All3 (fun v v' (h : HO) => h.own = true → Kept v v' h.cs) cv cv' ho' ∧ (ownValsO cv' (ho'.map HO.ecs)).map Value.ownBlock = (knH st l ho').map (fun r => (ρ.rs r).ownBlock) ∧ (∀ x ∈ knH st l ho', ∃ row, look st.rw x = some row ∧ row.own = true) ∧ gOwn (l.map ρ.os) ho' = l.map (oB st false ρ) ∧ ho'.map HO.own = obs0.map Ob.own
  | [], _, _, _, [], .nil, _ => ⟨[], fun _ => .nil, .nil, rfl, by simp [knH], rfl, rfl⟩
  | [], _, _, _, _ :: _, .nil, hp => by cases hp
  | _ :: _, _, _, _, _, .nil, hp => by cases hp
  | [], _, _, _, _, .cons _ _, hp => by cases hp
  | _ :: _, _, _, _, [], .cons _ _, hp => by cases hp
  | o :: l, _, _, _, h :: hs, .cons hx hr, hp => by
    obtain ⟨cv', i1, i2, i3, i4, i5, i6⟩ := hoP_ok hm hpr hpo hobs hr hp.2
    have h1 := hp.1
    split at h1
    · rename_i ob e
      obtain ⟨q1, q2, h1⟩ := h1
      obtain ⟨_, vs, g1, g2⟩ := hm.ob o ob e
      have hgo : gOwn ((o :: l).map ρ.os) (h :: hs) = (o :: l).map (oB st false ρ) := by
        simp only [List.map_cons, gOwn, i5, oB, e, obOwn, q1]
      cases hq : h.own with
      | true =>
        rw [hq] at h1
        have h1 : h.T = ob.T ∧ ocsP st0 st _ ob.cs h.cs := h1
        obtain ⟨_, k2, k3, k4⟩ := ocsP_ok (B := fun _ => True) hm hpr hpo hobs hx.2 g2 h1.2
        refine ⟨vs :: cv', fun B => .cons (fun _ => ⟨by rw [h1.1]; exact g1, by rw [HO.ecs_own hq]; exact (ocsP_ok (B := B) hm hpr hpo hobs hx.2 g2 h1.2).1, fun e => by rw [hq] at e; cases e⟩) (i1 B), .cons (fun _ => k2) i2, ?_, fun x hx => ?_, hgo, by simp [i6, q2]⟩
        · simp only [List.map_cons, ownValsO, knH, e, List.map_append, i3, hq, HO.ecs_own hq, k3]
        · simp only [knH, e, List.mem_append, hq] at hx
          rcases hx with hx | hx
          · exact k4 x hx
          · exact i4 x hx
      | false =>
        refine ⟨vs :: cv', fun B => .cons (fun e => by rw [hq] at e; cases e) (i1 B), .cons (fun e => by rw [hq] at e; cases e) i2, ?_, fun x hx => ?_, hgo, by simp [i6, q2]⟩
        · simp only [List.map_cons, ownValsO, knH, HO.ro_vals hq, List.nil_append, i3, hq]
        · simp only [knH, List.nil_append, hq] at hx
          exact i4 x hx
    · cases h1
theorem hmP_ok (hm : Mem C.P w0 F ρ st w) : ∀ {rs : List Nat} {rows : List Row}, hmP st rs rows → All2 (rowOwn C.P w) (rs.map ρ.rs) rows ∧ ∀ x ∈ rs, ∃ row, look st.rw x = some row ∧ row.own = true
  | [], [], _ => ⟨.nil, by simp⟩
  | [], _ :: _, hp => by cases hp
  | _ :: _, [], hp => by cases hp
  | r :: rs, row' :: rows, hp => by
    obtain ⟨i1, i2⟩ := hmP_ok hm hp.2
    have h1 := hp.1
    split at h1
    · rename_i row e
      obtain ⟨ho, rfl⟩ := h1
      have h3 := hm.row r row' e
      have h4 := h3.2
      rw [if_pos ho] at h4
      refine ⟨.cons ⟨ho, h3.1, h4.1⟩ i1, fun x hx => ?_⟩
      rcases List.mem_cons.1 hx with rfl | hx
      · exact ⟨row', e, ho⟩
      · exact i2 x hx
    · cases h1
theorem hoP_obs : ∀ {obs0 : List Ob} {l : List Nat} {ho' : List HO}, hoP st0 st obs0 l ho' → ∀ o ∈ l, ∃ ob, look st.ob o = some ob
  | _, [], _, _, o, ho => by cases ho
  | [], _ :: _, _, hp, _, _ => by cases hp
  | _ :: _, _ :: _, [], hp, _, _ => by cases hp
  | _ :: _, o :: l, _ :: _, hp, q, hq => by
    rcases List.mem_cons.1 hq with rfl | hq
    · have h1 := hp.1
      split at h1
      · rename_i ob e; exact ⟨ob, e⟩
      · cases h1
    · exact hoP_obs hp.2 q hq

theorem All3.imp {α β γ : Type _} {r s : α → β → γ → Prop} {xs : List α} {ys : List β} {zs : List γ} (h : All3 r xs ys zs) (hi : ∀ x y z, r x y z → s x y z) : All3 s xs ys zs := by
  induction h with
  | nil => exact .nil
  | cons hx _ ih => exact .cons (hi _ _ _ hx) ih
/-- The end, as the caller sees it. -/
theorem exit_ok (hC : C.Ok) {fn : Func} {args : List AC} {ho ho' : List HO} {hm hm' : List Row} {res : List RC} {cv : List (List Value)} {a' : Act} {w' : World}
    (hmu : (List.range' ho.length hm.length).map ρ0.rs = us) (hcells : All3 (fun g vs (ob : Ob) => w.heap[g]? = some (.cells vs.toArray ob.T (0, 0)) ∧ All2 (scOk ρ0 (entry args ho hm)) vs ob.cs ∧ (ob.own = false → ¬ (some g ∈ blks (gOwn gs ho) us (ownValsO cv (ho.map HO.ecs))))) gs cv (enObs (ho.length + hm.length) ho))
    (hr : Rel C.P w (fun b => some b ∈ blks (gOwn gs ho) us (ownValsO cv (ho.map HO.ecs))) gs ((entry args ho hm).pr.map ρ0.rs) fn.ntmps ρ st a' w') (hx : exitP C fn.results.toList (entry args ho hm) (enObs (ho.length + hm.length) ho) hm res ho' hm' st) :
    a'.defers = [] ∧ ∃ v, (results fn a'.tmps).run C.P w' = .ok v w' ∧ Post C w gs cv us (blks (gOwn gs ho) us (ownValsO cv (ho.map HO.ecs))) ho hm res ho' hm' (.returned v) w' := by
  unfold exitP at hx
  split at hx
  · rename_i ps e1
    obtain ⟨⟨n1, n2⟩, x1, x2, x3, x4, x5⟩ := hx
    obtain ⟨rv, r1, r2⟩ := run_results hC hr e1
    have hobs := hoP_obs x2
    have hpr : st.pr.map ρ.rs = (entry args ho hm).pr.map ρ0.rs := hr.pinr
    have hus : (st.pr.take hm.length).map ρ.rs = us := by
      rw [List.map_take, hpr, ← List.map_take]
      have : (entry args ho hm).pr.take hm.length = List.range' ho.length hm.length := by
        simp [entry]
      rw [this, hmu]
    obtain ⟨c1, c2, c3⟩ := rcsP_ok hr.mem hr.pins hus r2 x1
    obtain ⟨d1, d2⟩ := hmP_ok hr.mem x3
    have hcells' : All3 (fun g vs (ob : Ob) => (w.heap[g]? = some (.cells vs.toArray ob.T (0, 0))) ∧ All2 (scOk ρ0 (entry args ho hm)) vs ob.cs) gs cv (enObs (ho.length + hm.length) ho) := hcells.imp fun _ _ _ h => ⟨h.1, h.2.1⟩
    obtain ⟨cv', g3', g2, g1, g4, g5, g6⟩ := hoP_ok hr.mem hpr hr.pins hobs hcells' x2
    have hown : ho'.map HO.own = ho.map HO.own := by
      rw [g6]
      have : ∀ (ho : List HO) (n : Nat), (enObs n ho).map Ob.own = ho.map HO.own := by
        intro ho
        induction ho with
        | nil => intro n; rfl
        | cons h hs ih => intro n; simp [enObs, ih]
      exact this _ _
    rw [hr.pins] at g5
    have g3 := g3' (fun b => some b ∈ blks (gOwn gs ho') us (ownValsO cv' (ho'.map HO.ecs) ++ ownValsR rv res))
    rw [hr.pins] at g3
    have hrows : ∀ r ∈ st.pr.take hm.length ++ (knH st st.po ho' ++ knsP ps res), ∃ row, look st.rw r = some row ∧ row.own = true := by
      intro r hr
      rcases List.mem_append.1 hr with h | h
      · exact d2 r h
      · rcases List.mem_append.1 h with h | h
        · exact g4 r h
        · exact c3 r h
    have hL : blks (gOwn gs ho') us (ownValsO cv' (ho'.map HO.ecs) ++ ownValsR rv res) = st.po.map (oB st false ρ) ++ (st.pr.take hm.length ++ (knH st st.po ho' ++ knsP ps res)).map fun r => (ρ.rs r).ownBlock := by
      unfold blks
      rw [g5, ← hus, List.map_append, g1, c2]
      simp [List.map_map, Function.comp_def]
    have hin : ∀ b, some b ∈ blks (gOwn gs ho') us (ownValsO cv' (ho'.map HO.ecs) ++ ownValsR rv res) → okb w (fun b => some b ∈ blks (gOwn gs ho) us (ownValsO cv (ho.map HO.ecs))) b := by
      intro b hb
      rw [hL] at hb
      rcases List.mem_append.1 hb with h | h
      · obtain ⟨o, h1, e⟩ := List.mem_map.1 h
        obtain ⟨ob, e1, e2, e3⟩ := oB_some e
        rw [← e3]
        exact (hr.mem.ob o ob e1).1 e2
      · obtain ⟨r, h1, e⟩ := List.mem_map.1 h
        obtain ⟨row, e1, e2⟩ := hrows r h1
        have := (hr.mem.row r row e1).2
        rw [if_pos e2] at this
        exact this.2 b e
    refine ⟨hr.defers, _, r1, rv, cv', rfl, c1, g3, g2, by rw [← hus]; exact d1, x4, x5, ?_, hin, hr.mem.frm, hown⟩
    rw [hL]
    exact ex_apart hr.mem (rd := false) (os := st.po) (ms := st.pr.take hm.length) (kn := knH st st.po ho' ++ knsP ps res) (nodupB_ok n1) (nodupB_ok n2) hrows
  · cases hx

/-- The end: as it is, or when the state has been weakened (a nil constant becomes an empty row). -/
structure FinG (C : Cx) (results : List ResultVar) (st0 : St) (obs0 : List Ob) (hm : List Row) (Q : List RC → List HO → List Row → Prop) (st : St) : Prop where
  ok : ∃ st', (st = st' ∨ Weak C st st') ∧ ∃ res ho' hm', Q res ho' hm' ∧ exitP C results st0 obs0 hm res ho' hm' st'
theorem FinG.done {results : List ResultVar} {obs0 : List Ob} {hm hm' : List Row} {res : List RC} {ho' : List HO} (h : exitP C results st0 obs0 hm res ho' hm' st) : FinG C results st0 obs0 hm (Just res ho' hm') st := ⟨st, .inl rfl, res, ho', hm', ⟨rfl, rfl, rfl⟩, h⟩
theorem FinG.weak {results : List ResultVar} {obs0 : List Ob} {hm hm' : List Row} {res : List RC} {ho' : List HO} (st' : St) (hw : Weak C st st') (h : exitP C results st0 obs0 hm res ho' hm' st') : FinG C results st0 obs0 hm (Just res ho' hm') st := ⟨st', .inr hw, res, ho', hm', ⟨rfl, rfl, rfl⟩, h⟩
theorem FinG.doneR {results : List ResultVar} {obs0 : List Ob} {hm : List Row} {Q : List RC → List HO → List Row → Prop} (res : List RC) (ho' : List HO) (hm' : List Row) (hq : Q res ho' hm') (h : exitP C results st0 obs0 hm res ho' hm' st) : FinG C results st0 obs0 hm Q st := ⟨st, .inl rfl, res, ho', hm', hq, h⟩
theorem FinG.weakR {results : List ResultVar} {obs0 : List Ob} {hm : List Row} {Q : List RC → List HO → List Row → Prop} (st' : St) (hw : Weak C st st') (res : List RC) (ho' : List HO) (hm' : List Row) (hq : Q res ho' hm') (h : exitP C results st0 obs0 hm res ho' hm' st') : FinG C results st0 obs0 hm Q st := ⟨st', .inr hw, res, ho', hm', hq, h⟩

/-- **A function's contract, by its code.** -/
theorem OkR_of_vc (hC : C.Ok) (hmix : C.P.follows .mixedOrders = true) {f : Nat} {fn : Func} {code : Code} (hf : C.P.funcs[f]? = some fn) (hn : (fn.name == "runtime.NumGoroutine") = false) (hb : fn.body = some code) {args : List AC} {ho : List HO} {hm : List Row} {Q : List RC → List HO → List Row → Prop} (hnt : args.length ≤ fn.ntmps)
    (h : vc C fn.ntmps code (entry args ho hm) fun e st => match e with
      | .normal => FinG C fn.results.toList (entry args ho hm) (enObs (ho.length + hm.length) ho) hm Q st
      | .ret => FinG C fn.results.toList (entry args ho hm) (enObs (ho.length + hm.length) ho) hm Q st
      | _ => False) : OkR C f args ho hm Q := by
  refine ⟨⟨fn, hf, hn, by rw [hb]; rfl⟩, ?_⟩
  intro w vs gs cv us
  dsimp only
  intro hG hargs hobj hrow hap
  obtain ⟨ρ0, hrel, hwf, hmu, hcells⟩ := entry_rel hargs hobj hrow hap hnt
  refine calls_of_wp hf hb (wp_mono (vc_ok hC hG hmix code _ _ _ w h ⟨hwf, ρ0, hrel⟩) fun e a' w' hq => ?_)
  obtain ⟨st, hK, hw, ρ, hr⟩ := hq
  have fin : FinG C fn.results.toList (entry args ho hm) (enObs (ho.length + hm.length) ho) hm Q st → a'.defers = [] ∧ ∃ v, (results fn a'.tmps).run C.P w' = .ok v w' ∧ ∃ res ho' hm', Q res ho' hm' ∧ Post C w gs cv us (blks (gOwn gs ho) us (ownValsO cv (ho.map HO.ecs))) ho hm res ho' hm' (.returned v) w' := by
    intro hF
    obtain ⟨st', hst, res, ho', hm', hQ, hx⟩ := hF.ok
    have : ∃ ρ', Rel C.P w (fun b => some b ∈ blks (gOwn gs ho) us (ownValsO cv (ho.map HO.ecs))) gs ((entry args ho hm).pr.map ρ0.rs) fn.ntmps ρ' st' a' w' := by
      rcases hst with rfl | hst
      · exact ⟨ρ, hr⟩
      · exact (hst.run hC ⟨hw, ρ, hr⟩).2
    obtain ⟨ρ', hr'⟩ := this
    obtain ⟨h1, v, h2, h3⟩ := exit_ok hC hmu hcells hr' hx
    exact ⟨h1, v, h2, res, ho', hm', hQ, h3⟩
  cases e with
  | normal => exact fin hK
  | ret => exact fin hK
  | _ => cases hK
theorem Ok_of_vc (hC : C.Ok) (hmix : C.P.follows .mixedOrders = true) {f : Nat} {fn : Func} {code : Code} (hf : C.P.funcs[f]? = some fn) (hn : (fn.name == "runtime.NumGoroutine") = false) (hb : fn.body = some code) {args : List AC} {ho ho' : List HO} {hm hm' : List Row} {res : List RC} (hnt : args.length ≤ fn.ntmps)
    (h : vc C fn.ntmps code (entry args ho hm) fun e st => match e with
      | .normal => FinG C fn.results.toList (entry args ho hm) (enObs (ho.length + hm.length) ho) hm (Just res ho' hm') st
      | .ret => FinG C fn.results.toList (entry args ho hm) (enObs (ho.length + hm.length) ho) hm (Just res ho' hm') st
      | _ => False) : Ok C f args ho hm res ho' hm' := OkR_of_vc hC hmix hf hn hb hnt h
end
end Go.Proofs.Ytjmhffbenbiieaa.Ev
