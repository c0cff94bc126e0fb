/- Part 26: regions in any order: one operation, whatever has been done already. -/
import Derived.Test.YtjmhffbenbiieaaEv25
set_option linter.unusedVariables false
set_option linter.unusedSimpArgs false
namespace Go.Proofs.Ytjmhffbenbiieaa.Ev
open Go.RowKit

/-! ### 1. Names -/
def scLt (k : Nat) : SC → Prop
  | .ref r _ => r < k
  | .ptr o _ => o < k
  | .eptr r _ _ => r < k
  | .clo _ os => ∀ o ∈ os, o < k
  | _ => True
def pvAll (q : SC → Prop) : PV → Prop
  | .one c => q c
  | .agg cs => ∀ c ∈ cs, q c
def svAll (q : SC → Prop) : SV → Prop
  | .pv p => pvAll q p
  | .tup ps => ∀ p ∈ ps, pvAll q p
abbrev pvLt (k : Nat) : PV → Prop := pvAll (scLt k)
abbrev svLt (k : Nat) : SV → Prop := svAll (scLt k)
theorem scOk_lt {ρ : Rho} {st : St} {v : Value} {c : SC} (h : scOk ρ st v c) : scLt st.nx c := by
  cases c with
  | ref r n => exact h.1
  | ptr o off => exact h.1
  | eptr r i j => exact h.1
  | clo f os => exact h.1
  | _ => trivial
theorem all2_mem {α β : Type _} {r : α → β → Prop} {xs : List α} {ys : List β} (h : All2 r xs ys) : ∀ y ∈ ys, ∃ x, r x y := by
  induction h with
  | nil => intro y hy; cases hy
  | cons hx _ ih =>
    intro y hy
    rcases List.mem_cons.1 hy with rfl | hy
    · exact ⟨_, hx⟩
    · exact ih y hy
theorem pvOk_lt {ρ : Rho} {st : St} {v : Value} {p : PV} (h : pvOk ρ st v p) : pvLt st.nx p := by
  cases p with
  | one c => exact scOk_lt h
  | agg cs => obtain ⟨vs, _, hv⟩ := h; exact fun c hc => by obtain ⟨v, hv⟩ := all2_mem hv c hc; exact scOk_lt hv
theorem svOk_lt {ρ : Rho} {st : St} {v : Value} {s : SV} (h : svOk ρ st v s) : svLt st.nx s := by
  cases s with
  | pv p => exact pvOk_lt h
  | tup ps => obtain ⟨vs, _, hv⟩ := h; exact fun p hp => by obtain ⟨v, hv⟩ := all2_mem hv p hp; exact pvOk_lt hv
theorem pvOk.tr {ρ ρ' : Rho} {st st' : St} {q : SC → Prop} (hi : ∀ v c, scOk ρ st v c → q c → scOk ρ' st' v c) {v : Value} {p : PV} (h : pvOk ρ st v p) (hq : pvAll q p) : pvOk ρ' st' v p := by
  cases p with
  | one c => exact hi _ _ h hq
  | agg cs => obtain ⟨vs, e, hv⟩ := h; exact ⟨vs, e, hv.imp fun x y hy hh => hi x y hh (hq y hy)⟩
theorem svOk.tr {ρ ρ' : Rho} {st st' : St} {q : SC → Prop} (hi : ∀ v c, scOk ρ st v c → q c → scOk ρ' st' v c) {v : Value} {s : SV} (h : svOk ρ st v s) (hq : svAll q s) : svOk ρ' st' v s := by
  cases s with
  | pv p => exact pvOk.tr hi h hq
  | tup ps => obtain ⟨vs, e, hv⟩ := h; exact ⟨vs, e, hv.imp fun x y hy hh => pvOk.tr hi hh (hq y hy)⟩
theorem pvAll.imp {q q' : SC → Prop} (h : ∀ c, q c → q' c) {p : PV} (hp : pvAll q p) : pvAll q' p := by
  cases p with
  | one c => exact h c hp
  | agg cs => exact fun c hc => h c (hp c hc)
theorem svAll.imp {q q' : SC → Prop} (h : ∀ c, q c → q' c) {p : SV} (hp : svAll q p) : svAll q' p := by
  cases p with
  | pv p => exact pvAll.imp h hp
  | tup cs => exact fun c hc => pvAll.imp h (hp c hc)
theorem live_all {st : St} {s : SV} (h : liveV st s = true) : svAll (fun c => liveC st c = true) s := by
  have hp : ∀ p, liveP st p = true → pvAll (fun c => liveC st c = true) p := by
    intro p h
    cases p with
    | one c => exact h
    | agg cs => exact List.all_eq_true.1 h
  cases s with
  | pv p => exact hp p h
  | tup ps => exact fun p hmem => hp p (List.all_eq_true.1 h p hmem)

/-- What holds of the state ahead of the region. -/
structure Base (st0 : St) : Prop where
  rlt : ∀ r row, look st0.rw r = some row → r < st0.nx
  olt : ∀ o ob, look st0.ob o = some ob → o < st0.nx
  slt : ∀ t sv, look st0.sl t = some sv → svLt st0.nx sv
  clt : ∀ o ob, look st0.ob o = some ob → ∀ c ∈ ob.cs, scLt st0.nx c
  po : ∀ o ∈ st0.po, o < st0.nx
  pr : ∀ o ∈ st0.pr, o < st0.nx
/-- What holds of the entries. -/
structure WfE (st0 : St) (es : List Ent) (n : Nat) : Prop where
  nx : st0.nx ≤ n
  rng : ∀ e ∈ es, st0.nx ≤ e.lo ∧ e.lo ≤ e.hi ∧ e.hi ≤ n
  disj : ∀ e ∈ es, ∀ e' ∈ es, ∀ r, e.lo ≤ r → r < e.hi → e'.lo ≤ r → r < e'.hi → e = e'
  rws : ∀ e ∈ es, ∀ p ∈ e.add.rw, e.lo ≤ p.1 ∧ p.1 < e.hi ∧ p.2.own = true
  obs : ∀ e ∈ es, ∀ p ∈ e.add.ob, e.lo ≤ p.1 ∧ p.1 < e.hi ∧ p.2.own = true
  ids : ∀ e ∈ es, ∀ e' ∈ es, e.i = e'.i → e = e'
  dst : ∀ e ∈ es, ∀ e' ∈ es, ∀ t, e.add.d = some t → e'.add.d = some t → e = e'
  dst0 : ∀ e ∈ es, ∀ t, e.add.d = some t → look st0.sl t = none

theorem look_none {β : Type _} {l : List (Nat × β)} {t : Nat} (h : ∀ p ∈ l, p.1 ≠ t) : look l t = none := by
  induction l with
  | nil => rfl
  | cons p l ih =>
    obtain ⟨s, v⟩ := p
    simp only [look]
    rw [if_neg (h (s, v) (by simp))]
    exact ih fun p hp => h p (by simp [hp])
theorem adRw_mem : ∀ {es : List Ent} {p : Nat × Row}, p ∈ adRw es → ∃ e ∈ es, p ∈ e.add.rw
  | [], p, h => by cases h
  | e :: r, p, h => by
    simp only [adRw, List.mem_append] at h
    rcases h with h | h
    · exact ⟨e, by simp, h⟩
    · obtain ⟨e', h1, h2⟩ := adRw_mem h; exact ⟨e', by simp [h1], h2⟩
theorem adOb_mem : ∀ {es : List Ent} {p : Nat × Ob}, p ∈ adOb es → ∃ e ∈ es, p ∈ e.add.ob
  | [], p, h => by cases h
  | e :: r, p, h => by
    simp only [adOb, List.mem_append] at h
    rcases h with h | h
    · exact ⟨e, by simp, h⟩
    · obtain ⟨e', h1, h2⟩ := adOb_mem h; exact ⟨e', by simp [h1], h2⟩
theorem adSl_mem : ∀ {es : List Ent} {t : Nat} {sv : SV}, look (adSl es) t = some sv → ∃ e ∈ es, e.add.d = some t ∧ sv = e.add.s
  | [], t, sv, h => by cases h
  | e :: r, t, sv, h => by
    simp only [adSl] at h
    rw [look_append] at h
    split at h
    · rename_i v hv
      injection h with h; subst h
      unfold Ent.sl at hv
      split at hv
      · rename_i t' ht
        simp only [look] at hv
        split at hv
        · rename_i e1; subst e1; injection hv with hv; exact ⟨e, by simp, ht, hv.symm⟩
        · cases hv
      · cases hv
    · obtain ⟨e', h1, h2⟩ := adSl_mem h; exact ⟨e', by simp [h1], h2⟩
theorem pickE_mem : ∀ {es : List Ent} {ps : List Nat} {e : Ent}, e ∈ pickE es ps → e ∈ es ∧ memB ps e.i = true
  | [], ps, e, h => by cases h
  | x :: r, ps, e, h => by
    simp only [pickE] at h
    split at h
    · rename_i hm
      rcases List.mem_cons.1 h with rfl | h
      · exact ⟨by simp, hm⟩
      · obtain ⟨h1, h2⟩ := pickE_mem h; exact ⟨by simp [h1], h2⟩
    · obtain ⟨h1, h2⟩ := pickE_mem h; exact ⟨by simp [h1], h2⟩
theorem look_roR : ∀ {l : List (Nat × Row)} {r : Nat}, look (roR l) r = (look l r).map fun row => { row with own := false }
  | [], r => rfl
  | (r', row) :: l, r => by
    simp only [roR, look]
    split
    · rfl
    · exact look_roR
theorem look_roO : ∀ {l : List (Nat × Ob)} {r : Nat}, look (roO l) r = (look l r).map fun row => { row with own := false }
  | [], r => rfl
  | (r', row) :: l, r => by
    simp only [roO, look]
    split
    · rfl
    · exact look_roO
theorem look_newR : ∀ {l : List (Nat × Row)} {n r : Nat}, look (newR n l) r = if n ≤ r then look l r else none
  | [], n, r => by simp [newR, look]
  | (r', row) :: l, n, r => by
    have ih := look_newR (l := l) (n := n) (r := r)
    simp only [newR, look]
    cases hb : Nat.ble n r' with
    | true =>
      have := Nat.le_of_ble_eq_true hb
      simp only [look]
      by_cases h : r' = r
      · subst h; simp [this]
      · simp [h, ih]
    | false =>
      simp only
      by_cases h : r' = r
      · subst h
        have : ¬ n ≤ r' := fun h2 => by rw [Nat.ble_eq_true_of_le h2] at hb; cases hb
        rw [ih]; simp [this]
      · rw [ih, if_neg h]
theorem look_newO : ∀ {l : List (Nat × Ob)} {n r : Nat}, look (newO n l) r = if n ≤ r then look l r else none
  | [], n, r => by simp [newO, look]
  | (r', row) :: l, n, r => by
    have ih := look_newO (l := l) (n := n) (r := r)
    simp only [newO, look]
    cases hb : Nat.ble n r' with
    | true =>
      have := Nat.le_of_ble_eq_true hb
      simp only [look]
      by_cases h : r' = r
      · subst h; simp [this]
      · simp [h, ih]
    | false =>
      simp only
      by_cases h : r' = r
      · subst h
        have : ¬ n ≤ r' := fun h2 => by rw [Nat.ble_eq_true_of_le h2] at hb; cases hb
        rw [ih]; simp [this]
      · rw [ih, if_neg h]
theorem newR_ge : ∀ {l : List (Nat × Row)} {n : Nat} {p : Nat × Row}, p ∈ newR n l → n ≤ p.1
  | [], n, p, h => by cases h
  | (r', row) :: l, n, p, h => by
    simp only [newR] at h
    split at h
    · rename_i hb
      rcases List.mem_cons.1 h with rfl | h
      · exact Nat.le_of_ble_eq_true hb
      · exact newR_ge h
    · exact newR_ge h
theorem newO_ge : ∀ {l : List (Nat × Ob)} {n : Nat} {p : Nat × Ob}, p ∈ newO n l → n ≤ p.1
  | [], n, p, h => by cases h
  | (r', row) :: l, n, p, h => by
    simp only [newO] at h
    split at h
    · rename_i hb
      rcases List.mem_cons.1 h with rfl | h
      · exact Nat.le_of_ble_eq_true hb
      · exact newO_ge h
    · exact newO_ge h
theorem okRs_ok {m : Nat} : ∀ {l : List (Nat × Row)}, okRs m l = true → ∀ p ∈ l, p.1 < m ∧ p.2.own = true
  | [], h, p, hp => by cases hp
  | (r, row) :: l, h, p, hp => by
    simp only [okRs] at h
    split at h
    · rename_i h1
      split at h
      · cases h
      · rename_i h2
        rcases List.mem_cons.1 hp with rfl | hp
        · refine ⟨?_, h1⟩
          rcases Nat.lt_or_ge r m with h3 | h3
          · exact h3
          · rw [Nat.ble_eq_true_of_le h3] at h2; cases h2
        · exact okRs_ok h p hp
    · cases h
theorem okOs_ok {st' : St} {m : Nat} : ∀ {l : List (Nat × Ob)}, okOs st' m l = true → ∀ p ∈ l, p.1 < m ∧ p.2.own = true ∧ ∀ c ∈ p.2.cs, liveC st' c = true
  | [], h, p, hp => by cases hp
  | (r, row) :: l, h, p, hp => by
    simp only [okOs] at h
    split at h
    · rename_i h1
      split at h
      · cases h
      · rename_i h2
        split at h
        · rename_i h4
          rcases List.mem_cons.1 hp with rfl | hp
          · refine ⟨?_, h1, List.all_eq_true.1 h4⟩
            rcases Nat.lt_or_ge r m with h3 | h3
            · exact h3
            · rw [Nat.ble_eq_true_of_le h3] at h2; cases h2
          · exact okOs_ok h p hp
        · cases h
    · cases h
theorem oldR_ok {n : Nat} {old : List (Nat × Row)} : ∀ {l : List (Nat × Row)}, oldR n old l = true → ∀ p ∈ l, p.1 < n → ∃ row', look old p.1 = some row' ∧ p.2.el.sz = row'.el.sz
  | [], h, p, hp, _ => by cases hp
  | (r, row) :: l, h, p, hp, hn => by
    simp only [oldR] at h
    split at h
    · rename_i h1
      rcases List.mem_cons.1 hp with rfl | hp
      · have := Nat.le_of_ble_eq_true h1; simp only at hn; omega
      · exact oldR_ok h p hp hn
    · split at h
      · rename_i row' h2
        split at h
        · rename_i h3
          rcases List.mem_cons.1 hp with rfl | hp
          · exact ⟨row', h2, Nat.eq_of_beq_eq_true h3⟩
          · exact oldR_ok h p hp hn
        · cases h
      · cases h
theorem oldO_ok {n : Nat} {old : List (Nat × Ob)} : ∀ {l : List (Nat × Ob)}, oldO n old l = true → ∀ p ∈ l, p.1 < n → ∃ row', look old p.1 = some row'
  | [], h, p, hp, _ => by cases hp
  | (r, row) :: l, h, p, hp, hn => by
    simp only [oldO] at h
    split at h
    · rename_i h1
      rcases List.mem_cons.1 hp with rfl | hp
      · have := Nat.le_of_ble_eq_true h1; simp only at hn; omega
      · exact oldO_ok h p hp hn
    · split at h
      · rename_i row' h2
        rcases List.mem_cons.1 hp with rfl | hp
        · exact ⟨row', h2⟩
        · exact oldO_ok h p hp hn
      · cases h

section
variable {st0 : St} {es : List Ent} {n : Nat}
theorem full_row0 (hW : WfE st0 es n) {r : Nat} (h : r < st0.nx) : look (full st0 es n).rw r = look st0.rw r := by
  simp only [full]; rw [look_append, look_none (l := adRw es)]
  intro p hp e
  obtain ⟨x, h1, h2⟩ := adRw_mem hp
  have := (hW.rws x h1 p h2).1; have := (hW.rng x h1).1; omega
theorem full_ob0 (hW : WfE st0 es n) {r : Nat} (h : r < st0.nx) : look (full st0 es n).ob r = look st0.ob r := by
  simp only [full]; rw [look_append, look_none (l := adOb es)]
  intro p hp e
  obtain ⟨x, h1, h2⟩ := adOb_mem hp
  have := (hW.obs x h1 p h2).1; have := (hW.rng x h1).1; omega
theorem ad_row (hrws : ∀ e ∈ es, ∀ p ∈ e.add.rw, e.lo ≤ p.1 ∧ p.1 < e.hi ∧ p.2.own = true) (hdisj : ∀ e ∈ es, ∀ e' ∈ es, ∀ r, e.lo ≤ r → r < e.hi → e'.lo ≤ r → r < e'.hi → e = e') {e : Ent} (he : e ∈ es) {r : Nat} (h1 : e.lo ≤ r) (h2 : r < e.hi) : look (adRw es) r = look e.add.rw r := by
  induction es with
  | nil => cases he
  | cons x l ih =>
    simp only [adRw]; rw [look_append]
    by_cases hx : x = e
    · subst hx
      split
      · rename_i v hv; rw [hv]
      · rename_i hn
        rw [hn]
        by_cases hl : x ∈ l
        · rw [ih (fun e he => hrws e (by simp [he])) (fun e he e' he' => hdisj e (by simp [he]) e' (by simp [he'])) hl, hn]
        · refine look_none fun p hp ep => hl ?_
          obtain ⟨y, g1, g2⟩ := adRw_mem hp
          have := hrws y (by simp [g1]) p g2
          rw [hdisj x (by simp) y (by simp [g1]) r h1 h2 (by omega) (by omega)]; exact g1
    · have hl : e ∈ l := by rcases List.mem_cons.1 he with e1 | e1; · exact absurd e1.symm hx
                            · exact e1
      have : look x.add.rw r = none := look_none fun p hp ep => by
        have := hrws x (by simp) p hp
        exact hx (hdisj x (by simp) e he r (by omega) (by omega) h1 h2)
      rw [this]
      exact ih (fun e he => hrws e (by simp [he])) (fun e he e' he' => hdisj e (by simp [he]) e' (by simp [he'])) hl
theorem ad_ob (hobs : ∀ e ∈ es, ∀ p ∈ e.add.ob, e.lo ≤ p.1 ∧ p.1 < e.hi ∧ p.2.own = true) (hdisj : ∀ e ∈ es, ∀ e' ∈ es, ∀ r, e.lo ≤ r → r < e.hi → e'.lo ≤ r → r < e'.hi → e = e') {e : Ent} (he : e ∈ es) {r : Nat} (h1 : e.lo ≤ r) (h2 : r < e.hi) : look (adOb es) r = look e.add.ob r := by
  induction es with
  | nil => cases he
  | cons x l ih =>
    simp only [adOb]; rw [look_append]
    by_cases hx : x = e
    · subst hx
      split
      · rename_i v hv; rw [hv]
      · rename_i hn
        rw [hn]
        by_cases hl : x ∈ l
        · rw [ih (fun e he => hobs e (by simp [he])) (fun e he e' he' => hdisj e (by simp [he]) e' (by simp [he'])) hl, hn]
        · refine look_none fun p hp ep => hl ?_
          obtain ⟨y, g1, g2⟩ := adOb_mem hp
          have := hobs y (by simp [g1]) p g2
          rw [hdisj x (by simp) y (by simp [g1]) r h1 h2 (by omega) (by omega)]; exact g1
    · have hl : e ∈ l := by rcases List.mem_cons.1 he with e1 | e1; · exact absurd e1.symm hx
                            · exact e1
      have : look x.add.ob r = none := look_none fun p hp ep => by
        have := hobs x (by simp) p hp
        exact hx (hdisj x (by simp) e he r (by omega) (by omega) h1 h2)
      rw [this]
      exact ih (fun e he => hobs e (by simp [he])) (fun e he e' he' => hdisj e (by simp [he]) e' (by simp [he'])) hl
theorem full_row_e (hB : Base st0) (hW : WfE st0 es n) {e : Ent} (he : e ∈ es) {r : Nat} (h1 : e.lo ≤ r) (h2 : r < e.hi) : look (full st0 es n).rw r = look e.add.rw r := by
  simp only [full]; rw [look_append, ad_row hW.rws hW.disj he h1 h2]
  split
  · rename_i v hv; exact hv.symm
  · rename_i hn
    rw [hn]
    cases h : look st0.rw r with
    | none => rfl
    | some row => have := hB.rlt r row h; have := (hW.rng e he).1; omega
theorem full_ob_e (hB : Base st0) (hW : WfE st0 es n) {e : Ent} (he : e ∈ es) {r : Nat} (h1 : e.lo ≤ r) (h2 : r < e.hi) : look (full st0 es n).ob r = look e.add.ob r := by
  simp only [full]; rw [look_append, ad_ob hW.obs hW.disj he h1 h2]
  split
  · rename_i v hv; exact hv.symm
  · rename_i hn
    rw [hn]
    cases h : look st0.ob r with
    | none => rfl
    | some row => have := hB.olt r row h; have := (hW.rng e he).1; omega
/-- Where a row stands. -/
theorem full_row_in (hB : Base st0) (hW : WfE st0 es n) {r : Nat} {row : Row} (h : look (full st0 es n).rw r = some row) : r < st0.nx ∨ ∃ e ∈ es, e.lo ≤ r ∧ r < e.hi := by
  simp only [full] at h; rw [look_append] at h
  split at h
  · rename_i v hv
    obtain ⟨e, h1, h2⟩ := adRw_mem (look_mem hv)
    exact .inr ⟨e, h1, (hW.rws e h1 _ h2).1, (hW.rws e h1 _ h2).2.1⟩
  · exact .inl (hB.rlt r row h)
theorem full_ob_in (hB : Base st0) (hW : WfE st0 es n) {r : Nat} {row : Ob} (h : look (full st0 es n).ob r = some row) : r < st0.nx ∨ ∃ e ∈ es, e.lo ≤ r ∧ r < e.hi := by
  simp only [full] at h; rw [look_append] at h
  split at h
  · rename_i v hv
    obtain ⟨e, h1, h2⟩ := adOb_mem (look_mem hv)
    exact .inr ⟨e, h1, (hW.obs e h1 _ h2).1, (hW.obs e h1 _ h2).2.1⟩
  · exact .inl (hB.olt r row h)
end
end Go.Proofs.Ytjmhffbenbiieaa.Ev
