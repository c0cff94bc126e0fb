/- Part 14: a call by the callee's contract: the state behind it. -/
import Derived.Test.YtjmhffbenbiieaaEv13
set_option linter.unusedVariables false
set_option linter.unusedSimpArgs false
namespace Go.Proofs.Ytjmhffbenbiieaa.Ev
open Go.RowKit

section
variable {C : Cx} {w0 : World} {F : Nat → Prop} {G : List Nat} {U : List Value} {nt : Nat} {ρ ρ' : Rho} {st st' : St} {a : Act} {w w' : World}

theorem ownVals_rows {P : Program} {B : Nat → Prop} {gs : List Nat} : ∀ {vs : List Value} {cs : List OC}, All2 (ocOk P w' B gs) vs cs → All2 (rowOwn P w') (ownVals vs cs) (ownRows cs)
  | _, _, .nil => .nil
  | _, _, .cons (y := c) h hr => by
    have ih := ownVals_rows hr
    cases c with
    | own el xs => exact .cons ⟨rfl, h.1, h.2⟩ ih
    | _ => exact ih
theorem ownVals1_rows {P : Program} {gs : List Nat} {us : List Value} : ∀ {vs : List Value} {cs : List RC1}, All2 (rcOk1 P w' gs us) vs cs → All2 (rowOwn P w') (ownVals1 vs cs) (ownRows1 cs)
  | _, _, .nil => .nil
  | _, _, .cons (y := c) h hr => by
    have ih := ownVals1_rows hr
    cases c with
    | row el xs => exact .cons ⟨rfl, h.1, h.2⟩ ih
    | _ => exact ih
theorem ownValsC_rows {P : Program} {gs : List Nat} {us : List Value} {v : Value} {c : RC} (h : rcOk P w' gs us v c) : All2 (rowOwn P w') (ownValsC v c) (ownRowsC c) := by
  cases c with
  | one c => exact ownVals1_rows (gs := gs) (us := us) (.cons h .nil)
  | agg cs => obtain ⟨vs, rfl, hv⟩ := h; simpa [ownValsC, ownRowsC, Value.cells] using ownVals1_rows hv
theorem ownValsR_rows {P : Program} {gs : List Nat} {us : List Value} : ∀ {vs : List Value} {cs : List RC}, All2 (rcOk P w' gs us) vs cs → All2 (rowOwn P w') (ownValsR vs cs) (ownRowsRs cs)
  | _, _, .nil => .nil
  | _, _, .cons h hr => (ownValsC_rows h).append (ownValsR_rows hr)
theorem ownVals_ro1 : ∀ (vs : List Value) (cs : List OC), ownVals vs (cs.map OC.ro1) = []
  | [], cs => by cases cs <;> rfl
  | v :: vs, [] => rfl
  | v :: vs, c :: cs => by
    have ih := ownVals_ro1 vs cs
    cases c <;> simpa [ownVals, OC.ro1] using ih
theorem ownRows_ro1 : ∀ (cs : List OC), ownRows (cs.map OC.ro1) = []
  | [] => rfl
  | c :: cs => by
    have ih := ownRows_ro1 cs
    cases c <;> simpa [ownRows, OC.ro1] using ih
theorem HO.ro_rows {h : HO} (e : h.own = false) : ownRows h.ecs = [] := by unfold HO.ecs; rw [e]; exact ownRows_ro1 _
theorem HO.ro_vals {h : HO} (e : h.own = false) (vs : List Value) : ownVals vs h.ecs = [] := by unfold HO.ecs; rw [e]; exact ownVals_ro1 _ _
theorem ownValsO_rows {P : Program} {B : Nat → Prop} {gs : List Nat} : ∀ {l : List Nat} {cv : List (List Value)} {hs : List HO}, All3 (fun g vs (h : HO) => h.own = true → objOk P w' B gs g vs h) l cv hs → All2 (rowOwn P w') (ownValsO cv (hs.map HO.ecs)) (ownRowsO hs)
  | _, _, _, .nil => .nil
  | _, _, h :: _, .cons hx hr => by
    cases e : h.own with
    | true => exact (ownVals_rows (hx e).2.1).append (ownValsO_rows hr)
    | false => simp only [List.map_cons, ownValsO, ownRowsO, HO.ro_rows e, HO.ro_vals e, List.nil_append]; exact ownValsO_rows hr

/-- The objects that come back, as they lie. -/
theorem imObs_ok {rd : Bool} {os bad : List Nat} {B : Nat → Prop} (hsc : ∀ v c, scOk ρ st v c → scOk ρ' st' v c) (hos : ∀ o ∈ os, o < st'.nx) (hρ : ρ'.os = ρ.os) : ∀ {l : List Nat} {cv cv' : List (List Value)} {ho ho' : List HO} {n : Nat},
    All3 (fun o vs (h : HO) => ∃ ob, look st.ob o = some ob ∧ h.own = obOwn rd ob ∧ h.ecs = exCs st rd os bad ob ∧ All2 (scOk ρ st) vs ob.cs) l cv ho → All3 (fun g vs (h : HO) => h.own = true → objOk C.P w' B (os.map ρ.os) g vs h) (l.map ρ.os) cv' ho' → All3 (fun v v' (h : HO) => h.own = true → Kept v v' h.cs) cv cv' ho' → ho'.map HO.own = ho.map HO.own →
    At ρ' st' n (ownValsO cv' (ho'.map HO.ecs)) (ownRowsO ho') → All2 (fun o (ob : Ob) => (ob.own = true ∧ (∃ ob0, look st.ob o = some ob0 ∧ obOwn rd ob0 = true) ∧ ∃ vs : List Value, w'.heap[ρ.os o]? = some (.cells vs.toArray ob.T (0, 0)) ∧ All2 (scOk ρ' st') vs ob.cs) ∨ (look st.ob o = some ob ∧ oB st rd ρ o = none)) l (imObs st os n l ho') := by
  intro l
  induction l with
  | nil => intro cv cv' ho ho' n h1 h2 h3 h3b h4; cases h2; exact .nil
  | cons o l ih =>
    intro cv cv' ho ho' n h1 h2 h3 h3b h4
    cases h1 with
    | cons h1 h1' =>
      cases h2 with
      | cons h2 h2' =>
        cases h3 with
        | cons h3 h3' =>
          rename_i y1 z1 ys1 zs1 y2 h' ys2 zs2
          simp only [List.map_cons, List.cons.injEq] at h3b
          obtain ⟨ob, e1, e0, _, e2⟩ := h1
          cases e : h'.own with
          | true =>
            have h2 := h2 e
            have hl := ownVals_len h2.2.1
            refine .cons (.inl ?_) (ih h1' h2' h3' h3b.2 (h4.right hl))
            simp only [e1, e]
            have e5 := HO.ecs_own e
            have h6 := h2.2.1
            have h7 := h4.left hl
            rw [e5] at h6 h7
            exact ⟨trivial, ⟨ob, rfl, by rw [← e0, ← h3b.1, e]⟩, _, h2.1, imCells_ok hsc hos hρ e2 h6 (h3 e) h7⟩
          | false =>
            have h4' : At ρ' st' (n + (ownRows h'.ecs).length) (ownValsO ys2 (zs2.map HO.ecs)) (ownRowsO zs2) := by
              simp only [List.map_cons, ownValsO, ownRowsO, HO.ro_rows e, HO.ro_vals e, List.nil_append] at h4
              rw [HO.ro_rows e]; exact h4
            refine .cons (.inr ?_) (ih h1' h2' h3' h3b.2 h4')
            simp only [e1, e]
            exact ⟨trivial, by simp only [oB, e1]; rw [← e0, ← h3b.1, e]; rfl⟩

theorem rowOk.same {P : Program} {v : Value} {row : Row} (h : rowOk P w0 F w v row) (hb : ∀ b, rblk row v = some b → w'.heap[b]? = w.heap[b]?) : rowOk P w0 F w' v row := by
  obtain ⟨hel, h⟩ := h
  refine ⟨hel, ?_⟩
  split
  · rename_i ho
    rw [if_pos ho] at h
    refine ⟨⟨h.1.1, ?_⟩, h.2⟩
    rcases h.1.2 with h1 | ⟨g, cap, cur, rfl, h2, h3, h4⟩
    · exact .inl h1
    · exact .inr ⟨g, cap, cur, rfl, h2, by rw [hb g (by simp [rblk, ho, Value.ownBlock]), h3], h4⟩
  · rename_i ho
    rw [if_neg ho] at h
    exact h.kept fun hp b hk => hb b (by unfold rblk; rw [if_neg (fun e => hp e.2)]; exact hk)

theorem Frm.chain {w1 : World} {B : Nat → Prop} (h : Frm w0 F w) (h' : Frm w B w') (hB : ∀ b, B b → okb w0 F b) : Frm w0 F w' := by
  refine ⟨h'.os.trans h.os, h'.tape.trans h.tape, h'.output.trans h.output, Nat.le_trans h.size h'.size, fun k hk hF => ?_⟩
  rw [h'.block k (Nat.lt_of_lt_of_le hk h.size) ?_, h.block k hk hF]
  intro e
  rcases hB k e with h1 | h1
  · omega
  · exact hF h1

/-- What a caller hands over, put together. -/
structure Hand (st : St) (rd : Bool) (os ms : List Nat) (ho : List HO) (hm : List Row) : Prop where
  nd : os.Nodup
  nd2 : (ms ++ exKn st rd os).Nodup
  ob : exHO st rd os (ms ++ exKn st rd os) os = some ho
  row : exHM st ms = some hm

theorem exHO_some {rd : Bool} {os bad : List Nat} {l : List Nat} {ho : List HO} (h : exHO st rd os bad l = some ho) : ∀ o ∈ l, ∃ ob, look st.ob o = some ob := by
  intro o hmem
  obtain ⟨i, hi⟩ := List.getElem?_of_mem hmem
  have h2 := exHO_get h
  have hl := h2.length
  have : ∃ y, ho[i]? = some y := by
    have := (List.getElem?_eq_some_iff.1 hi).1
    exact ⟨ho[i]'(by omega), List.getElem?_eq_getElem _⟩
  obtain ⟨y, hy⟩ := this
  obtain ⟨x, hx, ob, e, _⟩ := h2.get hy
  rw [hi] at hx; injection hx with hx; subst hx
  exact ⟨ob, e⟩
theorem exHM_some {l : List Nat} {hm : List Row} (h : exHM st l = some hm) : ∀ r ∈ l, ∃ row, look st.rw r = some row ∧ row.own = true := by
  intro o hmem
  obtain ⟨i, hi⟩ := List.getElem?_of_mem hmem
  have h2 := exHM_get h
  have hl := h2.length
  have : ∃ y, hm[i]? = some y := by
    have := (List.getElem?_eq_some_iff.1 hi).1
    exact ⟨hm[i]'(by omega), List.getElem?_eq_getElem _⟩
  obtain ⟨y, hy⟩ := this
  obtain ⟨x, hx, e⟩ := h2.get hy
  rw [hi] at hx; injection hx with hx; subst hx
  exact ⟨y, e⟩
theorem idx_mem {l : List Nat} {x : Nat} (h : x ∈ l) : (idx l x).isSome := by
  induction l with
  | nil => cases h
  | cons y r ih =>
    simp only [idx]
    split
    · rfl
    · rename_i hne
      rcases List.mem_cons.1 h with e | h
      · exact absurd e.symm hne
      · simpa using ih h

/-- The values behind the call: where the new rows lie. -/
def Rho.back (ρ : Rho) (n : Nat) (NV : List Value) : Rho := { ρ with rs := fun x => if x < n then ρ.rs x else NV.getD (x - n) (.slice none 0 0) }

theorem back_row {rd : Bool} {os ms : List Nat} {ho' : List HO} {hm' : List Row} {res : List RC} {NV : List Value} (hm : Mem C.P w0 F ρ st w) (hl : NV.length = (ownRowsO ho' ++ ownRowsRs res).length) (hms : ms.length = hm'.length) (hrows : ∀ r ∈ ms ++ exKn st rd os, ∃ row, look st.rw r = some row ∧ row.own = true)
    {r : Nat} {row : Row} (h : look (st.back rd os ms ho' hm' res).rw r = some row) :
    (∃ (i : Nat) (v : Value), r = st.nx + i ∧ (ownRowsO ho' ++ ownRowsRs res)[i]? = some row ∧ NV[i]? = some v ∧ (ρ.back st.nx NV).rs r = v) ∨ (∃ i : Nat, ms[i]? = some r ∧ hm'[i]? = some row ∧ r < st.nx ∧ (ρ.back st.nx NV).rs r = ρ.rs r) ∨
      (r ∉ ms ++ exKn st rd os ∧ look st.rw r = some row ∧ r < st.nx ∧ (ρ.back st.nx NV).rs r = ρ.rs r) := by
  simp only [St.back] at h
  rw [look_append, look_numb] at h
  have hlt : ∀ q, q < st.nx → (ρ.back st.nx NV).rs q = ρ.rs q := fun q hq => by simp [Rho.back, hq]
  have hmid : look (ms.zip hm' ++ dels st.rw (exKn st rd os)) r = some row → (∃ i : Nat, ms[i]? = some r ∧ hm'[i]? = some row ∧ r < st.nx ∧ (ρ.back st.nx NV).rs r = ρ.rs r) ∨ (r ∉ ms ++ exKn st rd os ∧ look st.rw r = some row ∧ r < st.nx ∧ (ρ.back st.nx NV).rs r = ρ.rs r) := by
    intro h
    rw [look_append] at h
    cases e : look (ms.zip hm') r with
    | some v =>
      rw [e] at h; injection h with h; subst h
      obtain ⟨i, h1, h2⟩ := look_zip e
      obtain ⟨row', e2, _⟩ := hrows r (by simp [List.mem_of_getElem? h1])
      exact .inl ⟨i, h1, h2, hm.rlt r row' e2, hlt r (hm.rlt r row' e2)⟩
    | none =>
      rw [e] at h
      simp only [look_dels] at h
      split at h
      · cases h
      · rename_i hk
        exact .inr ⟨by simp [look_zip_none hms e, hk], h, hm.rlt r row h, hlt r (hm.rlt r row h)⟩
  split at h
  · rename_i v he
    injection h with h; subst h
    split at he
    · rename_i hle
      have hlen := (List.getElem?_eq_some_iff.1 he).1
      refine .inl ⟨r - st.nx, NV[r - st.nx]'(by omega), by omega, he, List.getElem?_eq_getElem _, ?_⟩
      have h3 : ¬ r < st.nx := by omega
      have h4 : r - st.nx < NV.length := by omega
      simp [Rho.back, h3, h4]
    · cases he
  · exact .inr (hmid h)

theorem back_sc {rd : Bool} {os ms : List Nat} {ho ho' : List HO} {hmr hm' : List Row} {res : List RC} {NV : List Value} (hm : Mem C.P w0 F ρ st w) (hl : NV.length = (ownRowsO ho' ++ ownRowsRs res).length) (hd : Hand st rd os ms ho hmr)
    (hlen : hm'.map (fun r => r.xs.length) = hmr.map (fun r => r.xs.length)) (hsz : hm'.map (fun r => r.el.sz) = hmr.map (fun r => r.el.sz)) (hrows : ∀ r ∈ ms ++ exKn st rd os, ∃ row, look st.rw r = some row ∧ row.own = true)
    {v : Value} {c : SC} (h : scOk ρ st v c) : scOk (ρ.back st.nx NV) (st.back rd os ms ho' hm' res) v c := by
  have hms : ms.length = hm'.length := by
    have := congrArg List.length hlen; simp only [List.length_map] at this
    rw [this]; exact (exHM_get hd.row).length
  have hnx : st.nx ≤ (st.back rd os ms ho' hm' res).nx := Nat.le_add_right _ _
  have key : ∀ r row, r < st.nx → look (st.back rd os ms ho' hm' res).rw r = some row → ∃ row0, look st.rw r = some row0 ∧ row.xs.length = row0.xs.length ∧ row.el.sz = row0.el.sz ∧ (ρ.back st.nx NV).rs r = ρ.rs r := by
    intro r row hr hrow
    rcases back_row hm hl hms hrows hrow with ⟨i, v, e, _⟩ | ⟨i, e1, e2, _, e3⟩ | ⟨_, e1, _, e2⟩
    · omega
    · obtain ⟨r', h1, h2, h3⟩ : ∃ row0, hmr[i]? = some row0 ∧ look st.rw r = some row0 ∧ row0.own = true := by
        have hl2 := (exHM_get hd.row).length
        have hi := (List.getElem?_eq_some_iff.1 e1).1
        have hy : hmr[i]? = some (hmr[i]'(by omega)) := List.getElem?_eq_getElem _
        obtain ⟨x, hx, h4⟩ := (exHM_get hd.row).get hy
        rw [e1] at hx; injection hx with hx; subst hx
        exact ⟨_, hy, h4⟩
      refine ⟨r', h2, ?_, ?_, e3⟩
      · have := congrArg (fun l => l[i]?) hlen
        simp only [List.getElem?_map, e2, h1, Option.map_some, Option.some.injEq] at this
        exact this
      · have := congrArg (fun l => l[i]?) hsz
        simp only [List.getElem?_map, e2, h1, Option.map_some, Option.some.injEq] at this
        exact this
    · exact ⟨row, e1, rfl, rfl, e2⟩
  have keyo : ∀ o ob, look (st.back rd os ms ho' hm' res).ob o = some ob → ∃ ob0, look st.ob o = some ob0 := by
    intro o ob h
    simp only [St.back] at h
    rw [look_append] at h
    split at h
    · rename_i e
      obtain ⟨i, h1, _⟩ := look_zip e
      exact exHO_some hd.ob o (List.mem_of_getElem? h1)
    · exact ⟨ob, h⟩
  cases c with
  | val x => exact h
  | ref r n =>
    refine ⟨Nat.lt_of_lt_of_le h.1 hnx, fun row hrow => ?_⟩
    obtain ⟨row0, e1, e2, _, e3⟩ := key r row h.1 hrow
    rw [e3, e2]; exact h.2 row0 e1
  | eptr r i j =>
    refine ⟨Nat.lt_of_lt_of_le h.1 hnx, fun row hrow => ?_⟩
    obtain ⟨row0, e1, e2, e4, e3⟩ := key r row h.1 hrow
    rw [e3, e2, e4]; exact h.2 row0 e1
  | ptr o off =>
    refine ⟨Nat.lt_of_lt_of_le h.1 hnx, fun ob hob => ?_⟩
    obtain ⟨ob0, e1⟩ := keyo o ob hob
    exact h.2 ob0 e1
  | clo f l =>
    refine ⟨fun o hmem => Nat.lt_of_lt_of_le (h.1 o hmem) hnx, fun hs => h.2 fun o hmem => ?_⟩
    have := hs o hmem
    rw [Option.isSome_iff_exists] at this
    obtain ⟨ob, hob⟩ := this
    obtain ⟨ob0, e1⟩ := keyo o ob hob
    rw [e1]; rfl
  | undef => trivial

/-- **The memory behind the call.** -/
theorem Mem.back (hm : Mem C.P w0 F ρ st w) {rd : Bool} {os ms : List Nat} {ho ho' : List HO} {hmr hm' : List Row} {res : List RC} {rv : List Value} {cv cv' : List (List Value)} (hd : Hand st rd os ms ho hmr)
    (hcv : All3 (fun o vs (h : HO) => ∃ ob, look st.ob o = some ob ∧ h.own = obOwn rd ob ∧ h.ecs = exCs st rd os (ms ++ exKn st rd os) ob ∧ All2 (scOk ρ st) vs ob.cs) os cv ho) (hLc : (ownValsO cv (ho.map HO.ecs)).map Value.ownBlock = (exKn st rd os).map fun r => (ρ.rs r).ownBlock) (hgo : gOwn (os.map ρ.os) ho = os.map (oB st rd ρ)) (how : ho'.map HO.own = ho.map HO.own)
    {L L' : List (Option Nat)} (eL : L = blks (gOwn (os.map ρ.os) ho) (ms.map ρ.rs) (ownValsO cv (ho.map HO.ecs))) (eL' : L' = blks (gOwn (os.map ρ.os) ho') (ms.map ρ.rs) (ownValsO cv' (ho'.map HO.ecs) ++ ownValsR rv res))
    (hres : All2 (rcOk C.P w' (os.map ρ.os) (ms.map ρ.rs)) rv res) (hobj : All3 (fun g vs (h : HO) => h.own = true → objOk C.P w' (fun b => some b ∈ L') (os.map ρ.os) g vs h) (os.map ρ.os) cv' ho') (hkept : All3 (fun v v' (h : HO) => h.own = true → Kept v v' h.cs) cv cv' ho')
    (hrow : All2 (rowOwn C.P w') (ms.map ρ.rs) hm') (hlen : hm'.map (fun r => r.xs.length) = hmr.map (fun r => r.xs.length)) (hsz : hm'.map (fun r => r.el.sz) = hmr.map (fun r => r.el.sz))
    (hap : Apart L') (hsub : ∀ b, some b ∈ L' → w.heap.size ≤ b ∨ some b ∈ L) (hfrm : Frm w (fun b => some b ∈ L) w') :
    Mem C.P w0 F (ρ.back st.nx (ownValsO cv' (ho'.map HO.ecs) ++ ownValsR rv res)) (st.back rd os ms ho' hm' res) w' ∧ At (ρ.back st.nx (ownValsO cv' (ho'.map HO.ecs) ++ ownValsR rv res)) (st.back rd os ms ho' hm' res) st.nx (ownValsO cv' (ho'.map HO.ecs) ++ ownValsR rv res) (ownRowsO ho' ++ ownRowsRs res) := by
  have hgo' : gOwn (os.map ρ.os) ho' = os.map (oB st rd ρ) := by
    rw [← hgo]
    have : ∀ (l : List Nat) (h h' : List HO), h'.map HO.own = h.map HO.own → gOwn l h' = gOwn l h := by
      intro l
      induction l with
      | nil => intro h h' _; cases h <;> cases h' <;> rfl
      | cons x l ih =>
        intro h h' e
        cases h with
        | nil => cases h' with
          | nil => rfl
          | cons _ _ => simp at e
        | cons y h => cases h' with
          | nil => simp at e
          | cons y' h' =>
            simp only [List.map_cons, List.cons.injEq] at e
            simp only [gOwn, e.1, ih h h' e.2]
    exact this _ _ _ how
  have hobs : ∀ o ∈ os, ∃ ob, look st.ob o = some ob := exHO_some hd.ob
  have hrows : ∀ r ∈ ms ++ exKn st rd os, ∃ row, look st.rw r = some row ∧ row.own = true := by
    intro r hr
    rcases List.mem_append.1 hr with h | h
    · exact exHM_some hd.row r h
    · exact exKn_own h
  have hL : L = os.map (oB st rd ρ) ++ (ms ++ exKn st rd os).map fun r => (ρ.rs r).ownBlock := by
    rw [eL]; unfold blks
    rw [hLc, hgo]; simp [List.map_map, Function.comp_def]
  have hNr : All2 (rowOwn C.P w') (ownValsO cv' (ho'.map HO.ecs) ++ ownValsR rv res) (ownRowsO ho' ++ ownRowsRs res) := (ownValsO_rows hobj).append (ownValsR_rows hres)
  generalize hNV : ownValsO cv' (ho'.map HO.ecs) ++ ownValsR rv res = NV at *
  have hl : NV.length = (ownRowsO ho' ++ ownRowsRs res).length := hNr.length
  have hms : ms.length = hm'.length := by
    have := hrow.length; simpa using this
  have hsc : ∀ v c, scOk ρ st v c → scOk (ρ.back st.nx NV) (st.back rd os ms ho' hm' res) v c := fun v c h => back_sc hm hl hd hlen hsz hrows h
  have hAt : At (ρ.back st.nx NV) (st.back rd os ms ho' hm' res) st.nx NV (ownRowsO ho' ++ ownRowsRs res) := by
    refine ⟨hl, fun i v row h1 h2 => ⟨?_, ?_, ?_⟩⟩
    · have h3 : ¬ st.nx + i < st.nx := by omega
      simp [Rho.back, h3, h1]
    · simp only [St.back]
      rw [look_append, look_numb, if_pos (Nat.le_add_right _ _), Nat.add_sub_cancel_left, h2]
    · have := (List.getElem?_eq_some_iff.1 h2).1
      simp only [St.back]; omega
  refine ⟨?_, hAt⟩
  have hokL : ∀ b, some b ∈ L → okb w0 F b := by
    intro b hb
    rw [hL] at hb
    rcases List.mem_append.1 hb with h | h
    · obtain ⟨o, h1, e⟩ := List.mem_map.1 h
      obtain ⟨ob, e1, e2, e3⟩ := oB_some e
      rw [← e3]
      exact (hm.ob o ob e1).1 e2
    · obtain ⟨r, h1, e⟩ := List.mem_map.1 h
      obtain ⟨row, e1, e2⟩ := hrows r h1
      have := (hm.row r row e1).2
      rw [if_pos e2] at this
      exact this.2 b e
  have hokL' : ∀ b, some b ∈ L' → okb w0 F b := by
    intro b hb
    rcases hsub b hb with h | h
    · exact .inl (Nat.le_trans hm.frm.size h)
    · exact hokL b h
  have hout : ∀ b, b < w.heap.size → some b ∉ L → some b ∉ L' := by
    intro b h1 h2 h3
    rcases hsub b h3 with h | h
    · omega
    · exact h2 h
  rw [hgo'] at eL'
  -- where a row's block stands
  have hpa : ∀ (i : Nat) (v : Value), NV[i]? = some v → L'[os.length + (ms.length + i)]? = some v.ownBlock := by
    intro i v h
    rw [eL']; unfold blks
    rw [List.getElem?_append_right (by simp), List.getElem?_append_right (by simp)]
    simp [h]
  have hpb : ∀ (i r : Nat), ms[i]? = some r → L'[os.length + i]? = some (ρ.rs r).ownBlock := by
    intro i r h
    have := (List.getElem?_eq_some_iff.1 h).1
    rw [eL']; unfold blks
    rw [List.getElem?_append_right (by simp), List.getElem?_append_left (by simp; omega)]
    simp [h]
  have hpo : ∀ (i o : Nat), os[i]? = some o → L'[i]? = some (oB st rd ρ o) := by
    intro i r h
    have := (List.getElem?_eq_some_iff.1 h).1
    rw [eL']; unfold blks
    rw [List.getElem?_append_left (by simp; omega)]
    simp [h]
  -- the rows: their place, or as they were
  have hkey : ∀ r row, look (st.back rd os ms ho' hm' res).rw r = some row →
      (∃ p, L'[p]? = some (((ρ.back st.nx NV).rs r).ownBlock) ∧ os.length ≤ p ∧ row.own = true ∧ rowOwn C.P w' ((ρ.back st.nx NV).rs r) row ∧ (r < st.nx → ms[p - os.length]? = some r) ∧ (st.nx ≤ r → p = os.length + (ms.length + (r - st.nx)))) ∨
      (r ∉ ms ++ exKn st rd os ∧ look st.rw r = some row ∧ r < st.nx ∧ (ρ.back st.nx NV).rs r = ρ.rs r) := by
    intro r row h
    rcases back_row hm hl hms hrows h with ⟨i, v, e1, e2, e3, e4⟩ | ⟨i, e1, e2, e3, e4⟩ | h
    · obtain ⟨v', h5, h6⟩ := hNr.get e2
      rw [e3] at h5; injection h5 with h5; subst h5
      exact .inl ⟨_, by rw [e4]; exact hpa i v e3, by omega, h6.1, by rw [e4]; exact h6, by omega, fun _ => by omega⟩
    · obtain ⟨v', h5, h6⟩ := hrow.get e2
      rw [List.getElem?_map, e1] at h5; injection h5 with h5; subst h5
      refine .inl ⟨_, by rw [e4]; exact hpb i r e1, by omega, h6.1, by rw [e4]; exact h6, fun _ => ?_, by omega⟩
      rw [Nat.add_sub_cancel_left]; exact e1
    · exact .inr h
  have hoall := imObs_ok (C := C) (w' := w') (ρ' := ρ.back st.nx NV) (st' := st.back rd os ms ho' hm' res) (n := st.nx) hsc (fun o ho => Nat.lt_of_lt_of_le (hm.olt o _ (hobs o ho).choose_spec) (Nat.le_add_right _ _)) rfl hcv hobj hkept how (by rw [← hNV] at hAt; rw [← hNV]; exact hAt.left (ownValsO_rows hobj).length)
  -- the objects: turned, or as they were
  have hkeyo : ∀ o ob, look (st.back rd os ms ho' hm' res).ob o = some ob → (∃ i : Nat, os[i]? = some o ∧ oB st rd ρ o = some (ρ.os o) ∧ ob.own = true ∧ (∃ ob0, look st.ob o = some ob0 ∧ ob0.own = true) ∧ ∃ vs : List Value, w'.heap[ρ.os o]? = some (.cells vs.toArray ob.T (0, 0)) ∧ All2 (scOk (ρ.back st.nx NV) (st.back rd os ms ho' hm' res)) vs ob.cs) ∨ ((o ∈ os → oB st rd ρ o = none) ∧ look st.ob o = some ob) := by
    intro o ob h
    simp only [St.back] at h
    rw [look_append] at h
    split at h
    · rename_i e
      injection h with h; subst h
      obtain ⟨i, h1, h2⟩ := look_zip e
      obtain ⟨x, hx, h3⟩ := hoall.get h2
      rw [h1] at hx; injection hx with hx; subst hx
      rcases h3 with ⟨h3, ⟨ob0, h4, h5⟩, h6⟩ | ⟨h3, h4⟩
      · refine .inl ⟨i, h1, ?_, h3, ⟨ob0, h4, ?_⟩, h6⟩
        · simp only [oB, h4, h5, if_true]
        · cases rd with
          | true => cases h5
          | false => exact h5
      · exact .inr ⟨fun _ => h4, h3⟩
    · rename_i e
      exact .inr ⟨fun hmem => absurd hmem (look_zip_none hoall.length e), h⟩
  have hold : ∀ o ob, look (st.back rd os ms ho' hm' res).ob o = some ob → ∃ ob0, look st.ob o = some ob0 ∧ ob0.own = ob.own := by
    intro o ob h
    rcases hkeyo o ob h with ⟨i, h1, _, h2, ⟨ob0, h3, h4⟩, _⟩ | ⟨_, h1⟩
    · exact ⟨ob0, h3, by rw [h4, h2]⟩
    · exact ⟨ob, h1, rfl⟩
  have hfree : ∀ r row, look st.rw r = some row → r ∉ ms ++ exKn st rd os → ∀ b, rblk row (ρ.rs r) = some b → some b ∉ L' ∧ w'.heap[b]? = w.heap[b]? := by
    intro r row h1 h2 b hb
    have h3 := not_in hm (rd := rd) (os := os) hrows h1 h2 b hb
    rw [← hL] at h3
    have h4 := (hm.row r row h1).lt b hb
    exact ⟨hout b h4 h3, hfrm.block b h4 h3⟩
  refine ⟨hm.frm.chain (w1 := w) hfrm hokL, fun r row h => ?_, fun o ob h => ?_, fun r row h => ?_, fun o ob h => ?_, fun r r' row row' h h' ho hne b hb hb' => ?_, fun o o' ob ob' h h' ow hne => ?_, fun r o row ob h h' ow hb => ?_⟩
  · rcases back_row hm hl hms hrows h with ⟨i, v, e1, e2, _⟩ | ⟨i, _, _, e3, _⟩ | ⟨_, _, e3, _⟩
    · have := (List.getElem?_eq_some_iff.1 e2).1
      simp only [St.back]; omega
    · exact Nat.lt_of_lt_of_le e3 (Nat.le_add_right _ _)
    · exact Nat.lt_of_lt_of_le e3 (Nat.le_add_right _ _)
  · obtain ⟨ob0, e, _⟩ := hold o ob h
    exact Nat.lt_of_lt_of_le (hm.olt o ob0 e) (Nat.le_add_right _ _)
  · rcases hkey r row h with ⟨p, h1, h2, h3, h4, _⟩ | ⟨h1, h2, h3, h4⟩
    · refine ⟨h4.2.1, ?_⟩
      rw [if_pos h3]
      exact ⟨h4.2.2, fun b hb => hokL' b (List.mem_of_getElem? (by rw [h1, hb]))⟩
    · rw [h4]
      exact (hm.row r row h2).same fun b hb => (hfree r row h2 h1 b hb).2
  · rcases hkeyo o ob h with ⟨i, h1, _, h2, ⟨ob0, e, e2⟩, vs, h3, h4⟩ | ⟨h1, h2⟩
    · exact ⟨fun _ => (hm.ob o ob0 e).1 e2, vs, h3, h4⟩
    · obtain ⟨h3, vs, h4, h5⟩ := hm.ob o ob h2
      have h6 := not_in_ob hm (rd := rd) (os := os) hrows h2 h1
      rw [← hL] at h6
      exact ⟨h3, vs, (hfrm.block _ (lt_of_some h4) h6).trans h4, h5.imp fun v c _ => hsc v c⟩
  · rcases hkey r row h with ⟨p, h1, h2, h3, h4, h5, h6⟩ | ⟨h1, h2, h3, h4⟩ <;> rcases hkey r' row' h' with ⟨p', h1', h2', h3', h4', h5', h6'⟩ | ⟨h1', h2', h3', h4'⟩
    · have e1 : ((ρ.back st.nx NV).rs r).ownBlock = some b := by simpa [rblk, h3] using hb
      have e2 : ((ρ.back st.nx NV).rs r').ownBlock = some b := by simpa [rblk, h3'] using hb'
      refine apart_get hap h1 h1' ?_ b e1 e2
      intro e; subst e
      by_cases hr : r < st.nx
      · by_cases hr' : r' < st.nx
        · have := h5 hr; rw [h5' hr'] at this; injection this with this; exact hne this.symm
        · have := h6' (by omega)
          have := (List.getElem?_eq_some_iff.1 (h5 hr)).1
          omega
      · by_cases hr' : r' < st.nx
        · have := h6 (by omega)
          have := (List.getElem?_eq_some_iff.1 (h5' hr')).1
          omega
        · have := h6 (by omega); have := h6' (by omega); omega
    · rw [h4'] at hb'
      have := (hfree r' row' h2' h1' b hb').1
      exact this (List.mem_of_getElem? (by rw [h1]; simpa [rblk, h3] using hb))
    · rw [h4] at hb
      have := (hfree r row h2 h1 b hb).1
      exact this (List.mem_of_getElem? (by rw [h1']; simpa [rblk, h3'] using hb'))
    · rw [h4] at hb; rw [h4'] at hb'
      exact hm.rr r r' row row' h2 h2' ho hne b hb hb'
  · obtain ⟨ob0, e, e2⟩ := hold o ob h
    obtain ⟨ob0', e', e2'⟩ := hold o' ob' h'
    exact hm.oo o o' ob0 ob0' e e' (by rw [e2, e2']; exact ow) hne
  · change rblk row ((ρ.back st.nx NV).rs r) = some (ρ.os o) at hb
    rcases hkey r row h with ⟨p, h1, h2, h3, h4, h5, h6⟩ | ⟨h1, h2, h3, h4⟩
    · have e1 : ((ρ.back st.nx NV).rs r).ownBlock = some (ρ.os o) := by simpa [rblk, h3] using hb
      rcases hkeyo o ob h' with ⟨i, g1, g2, _⟩ | ⟨g1, g2⟩
      · have := (List.getElem?_eq_some_iff.1 g1).1
        have h7 := hpo i o g1
        rw [g2] at h7
        exact apart_get hap h1 h7 (by omega) _ e1 rfl
      · have h7 := not_in_ob hm (rd := rd) (os := os) hrows g2 g1
        rw [← hL] at h7
        obtain ⟨_, vs, h8, _⟩ := hm.ob o ob g2
        exact hout _ (lt_of_some h8) h7 (List.mem_of_getElem? (by rw [h1, e1]))
    · rw [h4] at hb
      obtain ⟨ob0, e, e2⟩ := hold o ob h'
      exact hm.ro r o row ob0 h2 e (by rw [e2]; exact ow) hb

theorem Names.back {rd : Bool} {os ms : List Nat} {ho' : List HO} {hm' : List Row} {res : List RC} {NV : List Value} (hm : Mem C.P w0 F ρ st w) (hl : NV.length = (ownRowsO ho' ++ ownRowsRs res).length) (hobs : ∀ o ∈ os, ∃ ob, look st.ob o = some ob) (hrows : ∀ r ∈ ms ++ exKn st rd os, ∃ row, look st.rw r = some row ∧ row.own = true)
    (hrow : All2 (rowOwn C.P w') (ms.map ρ.rs) hm') : Names ρ (ρ.back st.nx NV) (st.back rd os ms ho' hm' res) os ms := by
  have hms : ms.length = hm'.length := by have := hrow.length; simpa using this
  have hlt : ∀ r ∈ ms, r < st.nx := fun r hr => by
    obtain ⟨row, e, _⟩ := hrows r (by simp [hr]); exact hm.rlt r row e
  have her : ∀ r ∈ ms, (ρ.back st.nx NV).rs r = ρ.rs r := fun r hr => by simp [Rho.back, hlt r hr]
  refine ⟨fun o ho => ?_, rfl, fun r hr => Nat.lt_of_lt_of_le (hlt r hr) (Nat.le_add_right _ _), her, fun r hr row hrw => ?_⟩
  · obtain ⟨ob, e⟩ := hobs o ho
    exact Nat.lt_of_lt_of_le (hm.olt o ob e) (Nat.le_add_right _ _)
  · rcases back_row hm hl hms hrows hrw with ⟨i, v, e1, _⟩ | ⟨i, e1, e2, _, _⟩ | ⟨h1, _⟩
    · have := hlt r hr; omega
    · obtain ⟨v', h5, h6⟩ := hrow.get e2
      rw [List.getElem?_map, e1] at h5; injection h5 with h5; subst h5
      exact own_slice h6.2.2
    · exact absurd (by simp [hr]) h1

end
end Go.Proofs.Ytjmhffbenbiieaa.Ev
