/- Part 19: states that say less, under other names. -/
import Derived.Test.YtjmhffbenbiieaaEv18
set_option linter.unusedVariables false
set_option linter.unusedSimpArgs false
namespace Go.Proofs.Ytjmhffbenbiieaa.Ev
open Go.RowKit

/-- c says what c' says; fr, fo: which rows, objects of the one the names of the other are (none: a nil slice). -/
def scM (fr : List (Nat × Option Nat)) (fo : List (Nat × Nat)) : SC → SC → Prop
  | _, .undef => True
  | .val v, .val v' => v' = v
  | .val v, .ref r' n' => look fr r' = some none ∧ v = .slice none 0 0 ∧ n' = 0
  | .ref r n, .ref r' n' => look fr r' = some (some r) ∧ n' = n
  | .ptr o off, .ptr o' off' => look fo o' = some o ∧ off' = off
  | .eptr r i j, .eptr r' i' j' => look fr r' = some (some r) ∧ i' = i ∧ j' = j
  | .clo f os, .clo f' os' => f' = f ∧ os'.map (look fo) = os.map some
  | _, _ => False
def csM (fr : List (Nat × Option Nat)) (fo : List (Nat × Nat)) : List SC → List SC → Prop
  | [], [] => True
  | c :: cs, c' :: cs' => scM fr fo c c' ∧ csM fr fo cs cs'
  | _, _ => False
def pvM (fr : List (Nat × Option Nat)) (fo : List (Nat × Nat)) : PV → PV → Prop
  | _, .one .undef => True
  | .one c, .one c' => scM fr fo c c'
  | .agg cs, .agg cs' => csM fr fo cs cs'
  | _, _ => False
def svM (fr : List (Nat × Option Nat)) (fo : List (Nat × Nat)) : SV → SV → Prop
  | .pv p, .pv p' => pvM fr fo p p'
  | _, _ => False
def rowM (row row' : Row) : Prop := match row.own, row'.own with
  | true, true => row' = row
  | false, false => row' = row
  | true, false => row' = { row with own := false }
  | false, true => False
def slM (fr : List (Nat × Option Nat)) (fo : List (Nat × Nat)) (st : St) : List (Nat × SV) → Prop
  | [] => True
  | (t, s') :: r => svM fr fo (ev st (.tmp t)) s' ∧ slM fr fo st r
def rwM (C : Cx) (fr : List (Nat × Option Nat)) (st : St) (n' : Nat) : List (Nat × Row) → Prop
  | [] => True
  | (r', row') :: l => (r' < n' ∧ match look fr r' with
    | some (some r) => match look st.rw r with
      | some row => rowM row row'
      | none => False
    | some none => row'.own = true ∧ row'.xs = [] ∧ C.el row'.el.T = some row'.el
    | none => False) ∧ rwM C fr st n' l
def obM (fr : List (Nat × Option Nat)) (fo : List (Nat × Nat)) (st : St) (n' : Nat) : List (Nat × Ob) → Prop
  | [] => True
  | (o', ob') :: l => (o' < n' ∧ match look fo o' with
    | some o => match look st.ob o with
      | some ob => (match ob'.own with
        | true => ob.own = true
        | false => True) ∧ ob'.T = ob.T ∧ csM fr fo ob.cs ob'.cs
      | none => False
    | none => False) ∧ obM fr fo st n' l
def somes : List (Option (Option Nat)) → List Nat
  | [] => []
  | some (some x) :: r => x :: somes r
  | _ :: r => somes r
def somes1 : List (Option Nat) → List Nat
  | [] => []
  | some x :: r => x :: somes1 r
  | _ :: r => somes1 r
def ltB (n : Nat) : List Nat → Bool
  | [] => true
  | x :: r => if x < n then ltB n r else false
/-- st says what st' says. -/
def weakF (C : Cx) (fr : List (Nat × Option Nat)) (fo : List (Nat × Nat)) (st st' : St) : Prop :=
  (nodupB (somes (st'.rw.map fun p => look fr p.1)) = true ∧ nodupB (somes1 (st'.ob.map fun p => look fo p.1)) = true ∧ ltB st'.nx (fr.map (·.1)) = true ∧ ltB st'.nx (fo.map (·.1)) = true ∧
    nodupB (st'.rw.map (·.1)) = true ∧ nodupB (st'.ob.map (·.1)) = true ∧ st'.po.map (look fo) = st.po.map some ∧ st'.pr.map (look fr) = st.pr.map fun r => some (some r)) ∧
  slM fr fo st st'.sl ∧ rwM C fr st st'.nx st'.rw ∧ obM fr fo st st'.nx st'.ob

theorem ltB_ok {n : Nat} : ∀ {l : List Nat}, ltB n l = true → ∀ x ∈ l, x < n
  | [], _, x, hx => by cases hx
  | y :: l, h, x, hx => by
    simp only [ltB] at h
    split at h
    · rcases List.mem_cons.1 hx with rfl | hx
      · assumption
      · exact ltB_ok h x hx
    · cases h
theorem look_mem {β : Type _} : ∀ {l : List (Nat × β)} {t : Nat} {v : β}, look l t = some v → (t, v) ∈ l
  | [], _, _, h => by cases h
  | (s, u) :: l, t, v, h => by
    simp only [look] at h
    split at h
    · rename_i e; subst e; injection h with h; subst h; simp
    · simp [look_mem h]

section
variable {C : Cx} {w0 : World} {F : Nat → Prop} {G : List Nat} {U : List Value} {nt : Nat} {ρ : Rho} {st st' : St} {a : Act} {w : World}
variable {fr : List (Nat × Option Nat)} {fo : List (Nat × Nat)}

def Rho.under (ρ : Rho) (fr : List (Nat × Option Nat)) (fo : List (Nat × Nat)) : Rho where
  rs := fun r' => match look fr r' with
    | some (some r) => ρ.rs r
    | _ => .slice none 0 0
  os := fun o' => match look fo o' with
    | some o => ρ.os o
    | none => 0

theorem slM_get : ∀ {l : List (Nat × SV)}, slM fr fo st l → ∀ {t : Nat} {s' : SV}, look l t = some s' → svM fr fo (ev st (.tmp t)) s'
  | [], _, t, s', h => by cases h
  | (t0, s0) :: l, hm, t, s', h => by
    simp only [look] at h
    split at h
    · rename_i e; subst e; injection h with h; subst h; exact hm.1
    · exact slM_get hm.2 h
theorem rwM_get {n' : Nat} : ∀ {l : List (Nat × Row)}, rwM C fr st n' l → ∀ {r' : Nat} {row' : Row}, look l r' = some row' → (r' < n' ∧ match look fr r' with
    | some (some r) => match look st.rw r with
      | some row => rowM row row'
      | none => False
    | some none => row'.own = true ∧ row'.xs = [] ∧ C.el row'.el.T = some row'.el
    | none => False)
  | [], _, t, s', h => by cases h
  | (t0, s0) :: l, hm, t, s', h => by
    simp only [look] at h
    split at h
    · rename_i e; subst e; injection h with h; subst h; exact hm.1
    · exact rwM_get hm.2 h
theorem obM_get {n' : Nat} : ∀ {l : List (Nat × Ob)}, obM fr fo st n' l → ∀ {o' : Nat} {ob' : Ob}, look l o' = some ob' → (o' < n' ∧ match look fo o' with
    | some o => match look st.ob o with
      | some ob => (match ob'.own with
        | true => ob.own = true
        | false => True) ∧ ob'.T = ob.T ∧ csM fr fo ob.cs ob'.cs
      | none => False
    | none => False)
  | [], _, t, s', h => by cases h
  | (t0, s0) :: l, hm, t, s', h => by
    simp only [look] at h
    split at h
    · rename_i e; subst e; injection h with h; subst h; exact hm.1
    · exact obM_get hm.2 h

theorem somes_inj {β : Type _} : ∀ {l : List (Nat × β)}, (somes (l.map fun p => look fr p.1)).Nodup → (l.map (·.1)).Nodup → ∀ {x y r : Nat} {u v : β}, (x, u) ∈ l → (y, v) ∈ l → look fr x = some (some r) → look fr y = some (some r) → x = y := by
  intro l
  have mem_somes : ∀ {m : List (Nat × β)} {y r : Nat} {v : β}, (y, v) ∈ m → look fr y = some (some r) → r ∈ somes (m.map fun p => look fr p.1) := by
    intro m
    induction m with
    | nil => intro y r v h; cases h
    | cons p m ih =>
      intro y r v h e
      rcases List.mem_cons.1 h with h | h
      · subst h; simp [somes, e]
      · have := ih h e
        simp only [List.map_cons]
        cases e2 : look fr p.1 with
        | none => simpa [somes] using this
        | some q => cases q <;> simp [somes, this]
  induction l with
  | nil => intro _ _ x y r u v h; cases h
  | cons p l ih =>
    intro h1 h2 x y r u v hx hy ex ey
    have h1' : (somes (l.map fun p => look fr p.1)).Nodup := by
      simp only [List.map_cons] at h1
      cases e2 : look fr p.1 with
      | none => rw [e2] at h1; simpa [somes] using h1
      | some q =>
        rw [e2] at h1
        cases q with
        | none => simpa [somes] using h1
        | some q => simp only [somes, List.nodup_cons] at h1; exact h1.2
    have h2' : (l.map (·.1)).Nodup := by simp only [List.map_cons, List.nodup_cons] at h2; exact h2.2
    rcases List.mem_cons.1 hx with hx' | hx' <;> rcases List.mem_cons.1 hy with hy' | hy'
    · rw [← hy'] at hx'; injection hx'
    · subst hx'
      simp only [List.map_cons, ex, somes, List.nodup_cons] at h1
      exact absurd (mem_somes (m := l) hy' ey) h1.1
    · subst hy'
      simp only [List.map_cons, ey, somes, List.nodup_cons] at h1
      exact absurd (mem_somes (m := l) hx' ex) h1.1
    · exact ih h1' h2' hx' hy' ex ey
theorem somes1_inj {β : Type _} : ∀ {l : List (Nat × β)}, (somes1 (l.map fun p => look fo p.1)).Nodup → (l.map (·.1)).Nodup → ∀ {x y r : Nat} {u v : β}, (x, u) ∈ l → (y, v) ∈ l → look fo x = some r → look fo y = some r → x = y := by
  intro l
  have mem_somes : ∀ {m : List (Nat × β)} {y r : Nat} {v : β}, (y, v) ∈ m → look fo y = some r → r ∈ somes1 (m.map fun p => look fo p.1) := by
    intro m
    induction m with
    | nil => intro y r v h; cases h
    | cons p m ih =>
      intro y r v h e
      rcases List.mem_cons.1 h with h | h
      · subst h; simp [somes1, e]
      · have := ih h e
        simp only [List.map_cons]
        cases e2 : look fo p.1 with
        | none => simpa [somes1] using this
        | some q => simp [somes1, this]
  induction l with
  | nil => intro _ _ x y r u v h; cases h
  | cons p l ih =>
    intro h1 h2 x y r u v hx hy ex ey
    have h1' : (somes1 (l.map fun p => look fo p.1)).Nodup := by
      simp only [List.map_cons] at h1
      cases e2 : look fo p.1 with
      | none => rw [e2] at h1; simpa [somes1] using h1
      | some q => rw [e2] at h1; simp only [somes1, List.nodup_cons] at h1; exact h1.2
    have h2' : (l.map (·.1)).Nodup := by simp only [List.map_cons, List.nodup_cons] at h2; exact h2.2
    rcases List.mem_cons.1 hx with hx' | hx' <;> rcases List.mem_cons.1 hy with hy' | hy'
    · rw [← hy'] at hx'; injection hx'
    · subst hx'
      simp only [List.map_cons, ex, somes1, List.nodup_cons] at h1
      exact absurd (mem_somes (m := l) hy' ey) h1.1
    · subst hy'
      simp only [List.map_cons, ey, somes1, List.nodup_cons] at h1
      exact absurd (mem_somes (m := l) hx' ex) h1.1
    · exact ih h1' h2' hx' hy' ex ey

theorem rowM_ok {P : Program} {row row' : Row} {v : Value} (hm : rowM row row') (h : rowOk P w0 F w v row) : rowOk P w0 F w v row' ∧ (row'.own = true → row.own = true) ∧ row'.xs.length = row.xs.length ∧ row'.el.sz = row.el.sz ∧ ∀ b, rblk row' v = some b → rblk row v = some b := by
  unfold rowM at hm
  split at hm
  · subst hm; exact ⟨h, fun e => e, rfl, rfl, fun _ e => e⟩
  · subst hm; exact ⟨h, fun e => e, rfl, rfl, fun _ e => e⟩
  · subst hm
    exact ⟨⟨h.1, by simpa using row_rd h⟩, by simp, rfl, rfl, fun b e => rblk_seal row v e⟩
  · cases hm

/-- **A state that says less.** -/
theorem weak_ok (hC : C.Ok) (hm : weakF C fr fo st st') (h : Rel C.P w0 F G U nt ρ st a w) : ∃ ρ', Wf st' ∧ Rel C.P w0 F G U nt ρ' st' a w := by
  obtain ⟨⟨b1, b2, b3, b4, b5, b6, b7, b8⟩, hs, hr, ho⟩ := hm
  have ltr : ∀ r' x, look fr r' = some x → r' < st'.nx := fun r' x e => ltB_ok b3 r' (List.mem_map.2 ⟨_, look_mem e, rfl⟩)
  have lto : ∀ r' x, look fo r' = some x → r' < st'.nx := fun r' x e => ltB_ok b4 r' (List.mem_map.2 ⟨_, look_mem e, rfl⟩)
  have krow : ∀ r' row', look st'.rw r' = some row' → rowOk C.P w0 F w ((ρ.under fr fo).rs r') row' ∧ ((∃ r row, look fr r' = some (some r) ∧ look st.rw r = some row ∧ (row'.own = true → row.own = true) ∧ row'.xs.length = row.xs.length ∧ row'.el.sz = row.el.sz ∧ ∀ b, rblk row' ((ρ.under fr fo).rs r') = some b → rblk row (ρ.rs r) = some b) ∨
      (look fr r' = some none ∧ row'.xs = [] ∧ (ρ.under fr fo).rs r' = .slice none 0 0)) := by
    intro r' row' e
    have hg := (rwM_get hr e).2
    split at hg
    · rename_i r e1
      split at hg
      · rename_i row e2
        have hρ : (ρ.under fr fo).rs r' = ρ.rs r := by simp [Rho.under, e1]
        obtain ⟨h1, h2⟩ := rowM_ok hg (h.mem.row r row e2)
        rw [hρ]
        exact ⟨h1, .inl ⟨r, row, e1, e2, h2⟩⟩
      · cases hg
    · rename_i e1
      have hρ : (ρ.under fr fo).rs r' = .slice none 0 0 := by simp [Rho.under, e1]
      obtain ⟨g1, g2, g3⟩ := hg
      refine ⟨⟨(hC.el _ _ g3).1, ?_⟩, .inr ⟨e1, g2, hρ⟩⟩
      rw [if_pos g1, hρ]
      exact ⟨⟨by simp [g2, El.flat], .inl ⟨rfl, by simp [g2]⟩⟩, by simp [Value.ownBlock]⟩
    · cases hg
  have kob : ∀ o' ob', look st'.ob o' = some ob' → ∃ o ob, look fo o' = some o ∧ look st.ob o = some ob ∧ ob'.T = ob.T ∧ csM fr fo ob.cs ob'.cs ∧ (ρ.under fr fo).os o' = ρ.os o ∧ (ob'.own = true → ob.own = true) := by
    intro o' ob' e
    have hg := (obM_get ho e).2
    split at hg
    · rename_i o e1
      split at hg
      · rename_i ob e2
        exact ⟨o, ob, e1, e2, hg.2.1, hg.2.2, by simp [Rho.under, e1], fun e => by have := hg.1; rw [e] at this; exact this⟩
      · cases hg
    · cases hg
  have ksc : ∀ v c c', scM fr fo c c' → scOk ρ st v c → scOk (ρ.under fr fo) st' v c' := by
    intro v c c' hcc hv
    cases c' with
    | undef => trivial
    | val v' =>
      cases c <;> simp only [scM] at hcc
      exact (show v = _ from hv).trans hcc.symm
    | ref r' n' =>
      cases c <;> simp only [scM] at hcc
      · obtain ⟨e1, e2, e3⟩ := hcc
        refine ⟨ltr _ _ e1, fun row' hrow => ?_⟩
        rcases (krow r' row' hrow).2 with ⟨r, row, g1, _⟩ | ⟨_, g2, g3⟩
        · rw [e1] at g1; injection g1 with g1; cases g1
        · exact ⟨none, 0, 0, g3, by rw [show v = _ from hv, e2, e3], by omega⟩
      · rename_i r0 n0
        obtain ⟨e1, e2⟩ := hcc
        refine ⟨ltr _ _ e1, fun row' hrow => ?_⟩
        rcases (krow r' row' hrow).2 with ⟨r, row, g1, g2, _, g3, _⟩ | ⟨g1, _⟩
        · rw [e1] at g1; injection g1 with g1; injection g1 with g1; subst g1
          have hρ : (ρ.under fr fo).rs r' = ρ.rs r0 := by simp [Rho.under, e1]
          rw [hρ, g3, e2]
          exact hv.2 row g2
        · rw [e1] at g1; injection g1 with g1; cases g1
    | ptr o' off' =>
      cases c <;> simp only [scM] at hcc
      obtain ⟨e1, e2⟩ := hcc
      refine ⟨lto _ _ e1, fun ob' hob => ?_⟩
      obtain ⟨o, ob, g1, g2, _, _, g3, _⟩ := kob o' ob' hob
      rw [e1] at g1; injection g1 with g1; subst g1
      rw [g3, e2]
      exact hv.2 ob g2
    | eptr r' i' j' =>
      cases c <;> simp only [scM] at hcc
      rename_i r0 i0 j0
      obtain ⟨e1, e2, e3⟩ := hcc
      refine ⟨ltr _ _ e1, fun row' hrow => ?_⟩
      rcases (krow r' row' hrow).2 with ⟨r, row, g1, g2, _, g3, g4, _⟩ | ⟨g1, _⟩
      · rw [e1] at g1; injection g1 with g1; injection g1 with g1; subst g1
        have hρ : (ρ.under fr fo).rs r' = ρ.rs r0 := by simp [Rho.under, e1]
        rw [hρ, g3, g4, e2, e3]
        exact hv.2 row g2
      · rw [e1] at g1; injection g1 with g1; cases g1
    | clo f' os' =>
      cases c <;> simp only [scM] at hcc
      rename_i f os
      obtain ⟨rfl, e2⟩ := hcc
      have key : ∀ (os' os : List Nat), os'.map (look fo) = os.map some → (∀ o' ∈ os', o' < st'.nx) ∧ ((∀ o' ∈ os', (look st'.ob o').isSome) → (∀ o ∈ os, (look st.ob o).isSome) ∧ os'.map (ρ.under fr fo).os = os.map ρ.os) := by
        intro os'
        induction os' with
        | nil => intro os e; cases os <;> simp at e; simp
        | cons q l ih =>
          intro os e
          cases os with
          | nil => simp at e
          | cons p m =>
            simp only [List.map_cons, List.cons.injEq] at e
            obtain ⟨i1, i2⟩ := ih m e.2
            refine ⟨fun o' hmem => ?_, fun hs => ?_⟩
            · rcases List.mem_cons.1 hmem with rfl | hmem
              · exact lto _ _ e.1
              · exact i1 o' hmem
            · obtain ⟨j1, j2⟩ := i2 fun o' hmem => hs o' (by simp [hmem])
              have := hs q (by simp)
              rw [Option.isSome_iff_exists] at this
              obtain ⟨ob', hob⟩ := this
              obtain ⟨o, ob, g1, g2, _, _, g3, _⟩ := kob q ob' hob
              rw [e.1] at g1; injection g1 with g1; subst g1
              refine ⟨fun o hmem => ?_, by simp [g3, j2]⟩
              rcases List.mem_cons.1 hmem with rfl | hmem
              · rw [g2]; rfl
              · exact j1 o hmem
      obtain ⟨k1, k2⟩ := key os' os e2
      refine ⟨k1, fun hs => ?_⟩
      obtain ⟨k3, k4⟩ := k2 hs
      rw [hv.2 k3]
      congr 2
      have := congrArg (List.map fun g => Value.pointer (some ⟨g, 0, none⟩)) k4
      simpa [List.map_map, Function.comp_def] using this.symm
  have kcs : ∀ (cs cs' : List SC) (vs : List Value), csM fr fo cs cs' → All2 (scOk ρ st) vs cs → All2 (scOk (ρ.under fr fo) st') vs cs' := by
    intro cs
    induction cs with
    | nil => intro cs' vs hc hv; cases cs' with
      | nil => cases hv; exact .nil
      | cons _ _ => cases hc
    | cons c cs ih => intro cs' vs hc hv; cases cs' with
      | nil => cases hc
      | cons c' cs' => cases hv with
        | cons hx hr => exact .cons (ksc _ _ _ hc.1 hx) (ih _ _ hc.2 hr)
  refine ⟨ρ.under fr fo, ?_, ⟨h.mem.frm, fun r row e => (rwM_get hr e).1, fun o ob e => (obM_get ho e).1, fun r row e => (krow r row e).1, fun o' ob' e => ?_, fun r1 r2 row1 row2 e1 e2 hown hne b hb hb2 => ?_, fun o1 o2 ob1 ob2 e1 e2 ow hne heq => ?_, fun r o row ob e1 e2 ow hb => ?_⟩, h.size, h.defers, fun t s' e => ?_, ?_, ?_⟩
  · constructor
    · intro o hmem
      have : look fo o ∈ st'.po.map (look fo) := List.mem_map.2 ⟨o, hmem, rfl⟩
      rw [b7] at this
      obtain ⟨x, _, hx⟩ := List.mem_map.1 this
      exact lto _ _ hx.symm
    · intro o hmem
      have : look fr o ∈ st'.pr.map (look fr) := List.mem_map.2 ⟨o, hmem, rfl⟩
      rw [b8] at this
      obtain ⟨x, _, hx⟩ := List.mem_map.1 this
      exact ltr _ _ hx.symm
  · obtain ⟨o, ob, g1, g2, g3, g4, g5, g6⟩ := kob o' ob' e
    obtain ⟨h1, vs, h2, h3⟩ := h.mem.ob o ob g2
    rw [g5]
    exact ⟨fun e => h1 (g6 e), vs, by rw [g3]; exact h2, kcs _ _ _ g4 h3⟩
  · rcases (krow r1 row1 e1).2 with ⟨q1, row1', g1, g2, g3, _, _, g4⟩ | ⟨g1, g2, g3⟩
    · rcases (krow r2 row2 e2).2 with ⟨q2, row2', g1', g2', g3', _, _, g4'⟩ | ⟨g1', g2', g3'⟩
      · refine h.mem.rr q1 q2 row1' row2' g2 g2' (hown.imp g3 g3') (fun e => hne ?_) b (g4 b hb) (g4' b hb2)
        subst e
        exact somes_inj (nodupB_ok b1) (nodupB_ok b5) (look_mem e1) (look_mem e2) g1 g1'
      · rw [g3'] at hb2
        unfold rblk at hb2; split at hb2 <;> cases hb2
    · rw [g3] at hb
      unfold rblk at hb; split at hb <;> cases hb
  · obtain ⟨o, ob, g1, g2, _, _, g5, g6⟩ := kob o1 ob1 e1
    obtain ⟨o', ob', g1', g2', _, _, g5', g6'⟩ := kob o2 ob2 e2
    rw [g5, g5'] at heq
    refine h.mem.oo o o' ob ob' g2 g2' (ow.imp g6 g6') (fun e => hne ?_) heq
    subst e
    exact somes1_inj (nodupB_ok b2) (nodupB_ok b6) (look_mem e1) (look_mem e2) g1 g1'
  · obtain ⟨o', ob', g1', g2', _, _, g5', g6'⟩ := kob o ob e2
    rw [g5'] at hb
    rcases (krow r row e1).2 with ⟨q1, row1', g1, g2, g3, _, _, g4⟩ | ⟨g1, g2, g3⟩
    · exact h.mem.ro q1 o' row1' ob' g2 g2' (ow.imp g3 g6') (g4 _ hb)
    · rw [g3] at hb
      unfold rblk at hb; split at hb <;> cases hb
  · have hv := ev_ok h (.tmp t)
    have hm := slM_get hs e
    change svOk ρ st (a.tmps.getD t undef) _ at hv
    generalize ev st (.tmp t) = s at *
    cases s with
    | tup ps => cases s' <;> simp only [svM] at hm
    | pv p =>
      cases s' with
      | tup ps => simp only [svM] at hm
      | pv p' =>
        simp only [svM] at hm
        cases p' with
        | one c' =>
          cases p with
          | one c =>
            by_cases hu : c' = .undef
            · subst hu; trivial
            · have : scM fr fo c c' := by cases c' <;> first | exact absurd rfl hu | exact hm
              exact ksc _ _ _ this hv
          | agg cs => cases c' <;> simp only [pvM] at hm; trivial
        | agg cs' =>
          cases p with
          | one c => simp only [pvM] at hm
          | agg cs =>
            obtain ⟨vs, e, hvs⟩ := hv
            exact ⟨vs, e, kcs _ _ _ hm hvs⟩
  · rw [← h.pins]
    have : ∀ (l' l : List Nat), l'.map (look fo) = l.map some → l'.map (ρ.under fr fo).os = l.map ρ.os := by
      intro l'
      induction l' with
      | nil => intro l e; cases l <;> simp at e; rfl
      | cons q m ih =>
        intro l e
        cases l with
        | nil => simp at e
        | cons p n =>
          simp only [List.map_cons, List.cons.injEq] at e
          have e1 : (ρ.under fr fo).os q = ρ.os p := by simp [Rho.under, e.1]
          simp [ih n e.2, e1]
    exact this _ _ b7
  · rw [← h.pinr]
    have : ∀ (l' l : List Nat), l'.map (look fr) = l.map (fun r => some (some r)) → l'.map (ρ.under fr fo).rs = l.map ρ.rs := by
      intro l'
      induction l' with
      | nil => intro l e; cases l <;> simp at e; rfl
      | cons q m ih =>
        intro l e
        cases l with
        | nil => simp at e
        | cons p n =>
          simp only [List.map_cons, List.cons.injEq] at e
          have e1 : (ρ.under fr fo).rs q = ρ.rs p := by simp [Rho.under, e.1]
          simp [ih n e.2, e1]
    exact this _ _ b8
end
/-! ### Which names are which: found by looking at what the slots say -/
def prR : SC → SC → List (Nat × Option Nat)
  | .ref r _, .ref r' _ => [(r', some r)]
  | .val _, .ref r' _ => [(r', none)]
  | .eptr r _ _, .eptr r' _ _ => [(r', some r)]
  | _, _ => []
def prO : SC → SC → List (Nat × Nat)
  | .ptr o _, .ptr o' _ => [(o', o)]
  | .clo _ os, .clo _ os' => os'.zip os
  | _, _ => []
def zipC {β : Type} (f : SC → SC → List β) : List SC → List SC → List β
  | c :: cs, c' :: cs' => f c c' ++ zipC f cs cs'
  | _, _ => []
def zipS {β : Type} (f : SC → SC → List β) : SV → SV → List β
  | .pv (.one c), .pv (.one c') => f c c'
  | .pv (.agg cs), .pv (.agg cs') => zipC f cs cs'
  | _, _ => []
def zipL {β : Type} (f : SC → SC → List β) (st : St) : List (Nat × SV) → List β
  | [] => []
  | (t, s') :: r => zipS f (ev st (.tmp t)) s' ++ zipL f st r
def zipB {β : Type} (f : SC → SC → List β) (st : St) (fo : List (Nat × Nat)) : List (Nat × Ob) → List β
  | [] => []
  | (o', ob') :: r => (match look fo o' with
    | some o => match look st.ob o with
      | some ob => zipC f ob.cs ob'.cs
      | none => []
    | none => []) ++ zipB f st fo r
def mapO1 (st st' : St) : List (Nat × Nat) := st'.po.zip st.po ++ zipL prO st st'.sl
def mapOs (st st' : St) : List (Nat × Nat) := mapO1 st st' ++ zipB prO st (mapO1 st st') st'.ob
def mapRs (st st' : St) : List (Nat × Option Nat) := st'.pr.zip (st.pr.map some) ++ (zipL prR st st'.sl ++ zipB prR st (mapOs st st') st'.ob)
/-- st says what st' says. -/
def Weak (C : Cx) (st st' : St) : Prop := weakF C (mapRs st st') (mapOs st st') st st'

section
variable {C : Cx} {w0 : World} {F : Nat → Prop} {G : List Nat} {U : List Value} {nt : Nat} {ρ : Rho} {st st' : St} {a : Act} {w : World}
theorem Weak.run (hC : C.Ok) (h : Weak C st st') (hr : RW C.P w0 F G U nt st a w) : RW C.P w0 F G U nt st' a w := by
  obtain ⟨_, ρ, hr⟩ := hr
  obtain ⟨ρ', h1, h2⟩ := weak_ok hC h hr
  exact ⟨h1, ρ', h2⟩

end
end Go.Proofs.Ytjmhffbenbiieaa.Ev
