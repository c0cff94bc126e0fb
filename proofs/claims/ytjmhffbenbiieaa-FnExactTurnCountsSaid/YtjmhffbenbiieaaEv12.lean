/- Part 12: a call by the callee's contract. -/
import Derived.Test.YtjmhffbenbiieaaEv11
set_option linter.unusedVariables false
set_option linter.unusedSimpArgs false
namespace Go.Proofs.Ytjmhffbenbiieaa.Ev
open Go.RowKit

/-! ### 1. What is handed over -/
def idx : List Nat → Nat → Option Nat
  | [], _ => none
  | x :: r, y => if x = y then some 0 else (idx r y).map (· + 1)
theorem idx_get {l : List Nat} {y k : Nat} (h : idx l y = some k) : l[k]? = some y := by
  induction l generalizing k with
  | nil => simp [idx] at h
  | cons x r ih =>
    simp only [idx] at h
    split at h
    · rename_i e; injection h with h; subst h; simp [e]
    · simp only [Option.map_eq_some_iff] at h
      obtain ⟨k', h1, rfl⟩ := h
      simpa using ih h1

/-- The names of the rows of its own that cells have. -/
def exOwn (st : St) : List SC → List Nat
  | [] => []
  | .ref r n :: cs => match look st.rw r with
    | some row => if row.own = true then r :: exOwn st cs else exOwn st cs
    | none => exOwn st cs
  | _ :: cs => exOwn st cs
def exOC (st : St) (os : List Nat) : SC → OC
  | .val v => .val v
  | .ref r n => match look st.rw r with
    | some row => if row.own = true then .own row.el (row.xs.take n) else .ro row.el (row.xs.take n)
    | none => .any
  | .ptr o 0 => match idx os o with
    | some k => .ptr k
    | none => .any
  | _ => .any
/-- Is an object handed over to be written? 'rd': the callee only reads. -/
def obOwn (rd : Bool) (ob : Ob) : Bool := match rd with
  | true => false
  | false => ob.own
/-- The cells of an object that is only read; 'bad': the rows that are handed over to be written. -/
def exOCr (st : St) (os bad : List Nat) : SC → OC
  | .val v => .val v
  | .ref r n => match idx bad r with
    | some _ => .any
    | none => match look st.rw r with
      | some row => .ro row.el (row.xs.take n)
      | none => .any
  | .ptr o 0 => match idx os o with
    | some k => .ptr k
    | none => .any
  | _ => .any
def exCs (st : St) (rd : Bool) (os bad : List Nat) (ob : Ob) : List OC := match obOwn rd ob with
  | true => ob.cs.map (exOC st os)
  | false => ob.cs.map (exOCr st os bad)
theorem ro1_r {st : St} {os bad : List Nat} (c : SC) : (exOCr st os bad c).ro1 = exOCr st os bad c := by
  cases c with
  | ref r n => simp only [exOCr]; split <;> (try split) <;> rfl
  | ptr o off => cases off <;> simp only [exOCr] <;> (try split) <;> rfl
  | _ => rfl
theorem exCs_ecs (st : St) (rd : Bool) (os bad : List Nat) (ob : Ob) : HO.ecs ⟨ob.T, exCs st rd os bad ob, obOwn rd ob⟩ = exCs st rd os bad ob := by
  simp only [HO.ecs, exCs]
  cases obOwn rd ob with
  | true => rfl
  | false => simp only [List.map_map]; apply List.map_congr_left; intro c _; exact ro1_r c
def exHO (st : St) (rd : Bool) (os bad : List Nat) : List Nat → Option (List HO)
  | [] => some []
  | o :: r => match look st.ob o, exHO st rd os bad r with
    | some ob, some l => some (⟨ob.T, exCs st rd os bad ob, obOwn rd ob⟩ :: l)
    | _, _ => none
def exKn1 (st : St) (rd : Bool) (ob : Ob) : List Nat := match obOwn rd ob with
  | true => exOwn st ob.cs
  | false => []
def exKn (st : St) (rd : Bool) : List Nat → List Nat
  | [] => []
  | o :: r => (match look st.ob o with
    | some ob => exKn1 st rd ob
    | none => []) ++ exKn st rd r
/-- The block of an object that is handed over to be written. -/
def oB (st : St) (rd : Bool) (ρ : Rho) (o : Nat) : Option Nat := match look st.ob o with
  | some ob => if obOwn rd ob = true then some (ρ.os o) else none
  | none => none
def exHM (st : St) : List Nat → Option (List Row)
  | [] => some []
  | r :: l => match look st.rw r, exHM st l with
    | some row, some rs => if row.own = true then some (row :: rs) else none
    | _, _ => none
/-- Arguments; 'os', 'ms': the objects and rows that are handed over; 'kn': the rows that go with the objects. -/
def exA1 (st : St) (os ms kn : List Nat) : SC → Option AC1
  | .val v => some (.val v)
  | .ref r n => match look st.rw r with
    | some row => match idx ms r with
      | some k => some (.wr k n)
      | none => if (idx kn r).isSome then none else some (.row row.el (row.xs.take n))
    | none => none
  | .ptr o 0 => (idx os o).map .obj
  | .eptr r i 0 => match idx ms r, look st.rw r with
    | some k, some row => some (.elp k i row.el.sz)
    | _, _ => none
  | .clo f l => (l.mapM (idx os)).map (.fn f)
  | _ => none
def exA (st : St) (os ms kn : List Nat) : SV → Option AC
  | .pv (.one c) => (exA1 st os ms kn c).map .one
  | .pv (.agg cs) => (cs.mapM (exA1 st os ms kn)).map .agg
  | .tup _ => none

section
variable {C : Cx} {w0 : World} {F : Nat → Prop} {G : List Nat} {U : List Value} {nt : Nat} {ρ : Rho} {st : St} {a : Act} {w : World}

theorem exHO_get {rd : Bool} {os bad : List Nat} : ∀ {l : List Nat} {ho : List HO}, exHO st rd os bad l = some ho → All2 (fun o h => ∃ ob, look st.ob o = some ob ∧ h = ⟨ob.T, exCs st rd os bad ob, obOwn rd ob⟩) l ho
  | [], ho, h => by simp only [exHO] at h; injection h with h; subst h; exact .nil
  | o :: r, ho, h => by
    simp only [exHO] at h
    split at h
    · rename_i ob l e1 e2
      injection h with h; subst h
      exact .cons ⟨ob, e1, rfl⟩ (exHO_get e2)
    · cases h
theorem exHM_get : ∀ {l : List Nat} {hm : List Row}, exHM st l = some hm → All2 (fun r row => look st.rw r = some row ∧ row.own = true) l hm
  | [], hm, h => by simp only [exHM] at h; injection h with h; subst h; exact .nil
  | r :: l, hm, h => by
    simp only [exHM] at h
    split at h
    · rename_i row rs e1 e2
      split at h
      · rename_i e3
        injection h with h; subst h
        exact .cons ⟨e1, e3⟩ (exHM_get e2)
      · cases h
    · cases h

/-- The values of the rows that cells have lie where their names say. -/
theorem exOwn_blks (hm : Mem C.P w0 F ρ st w) (os : List Nat) : ∀ {vs : List Value} {cs : List SC}, All2 (scOk ρ st) vs cs → (ownVals vs (cs.map (exOC st os))).map Value.ownBlock = (exOwn st cs).map fun r => (ρ.rs r).ownBlock
  | _, _, .nil => rfl
  | _, _, .cons (x := v) (y := c) hx hr => by
    have ih := exOwn_blks hm os hr
    cases c with
    | ref r n =>
      simp only [List.map_cons, exOC, exOwn]
      cases e : look st.rw r with
      | none => simpa [ownVals] using ih
      | some row =>
        cases e2 : row.own with
        | false => simpa [ownVals, e2] using ih
        | true =>
          obtain ⟨A, m, c, e3, e4, _⟩ := hx.2 row e
          have hb : v.ownBlock = (ρ.rs r).ownBlock := by rw [e3, e4]; cases A <;> rfl
          show ((ownVals (v :: _) ((if row.own = true then OC.own row.el (row.xs.take n) else OC.ro row.el (row.xs.take n)) :: _)).map Value.ownBlock) = (if row.own = true then r :: exOwn st _ else exOwn st _).map _
          rw [if_pos e2, if_pos e2]
          show v.ownBlock :: _ = (ρ.rs r).ownBlock :: _
          rw [hb]
          exact congrArg _ ih
    | ptr o off =>
      cases off with
      | zero => simp only [List.map_cons, exOC, exOwn]; cases idx os o <;> simpa [ownVals] using ih
      | succ _ => simpa [ownVals, exOC, exOwn] using ih
    | val v => simpa [ownVals, exOC, exOwn] using ih
    | eptr r i j => simpa [ownVals, exOC, exOwn] using ih
    | clo f l => simpa [ownVals, exOC, exOwn] using ih
    | undef => simpa [ownVals, exOC, exOwn] using ih
theorem exOwn_own : ∀ {cs : List SC} {r : Nat}, r ∈ exOwn st cs → ∃ row, look st.rw r = some row ∧ row.own = true
  | [], r, h => by simp [exOwn] at h
  | c :: cs, r, h => by
    cases c with
    | ref r' n =>
      simp only [exOwn] at h
      split at h
      · rename_i row e
        split at h
        · rename_i e2
          rcases List.mem_cons.1 h with rfl | h
          · exact ⟨row, e, e2⟩
          · exact exOwn_own h
        · exact exOwn_own h
      · exact exOwn_own h
    | _ => exact exOwn_own (by simpa [exOwn] using h)
theorem exKn_own {rd : Bool} : ∀ {l : List Nat} {r : Nat}, r ∈ exKn st rd l → ∃ row, look st.rw r = some row ∧ row.own = true
  | [], r, h => by simp [exKn] at h
  | o :: l, r, h => by
    simp only [exKn, List.mem_append] at h
    rcases h with h | h
    · split at h
      · unfold exKn1 at h
        split at h
        · exact exOwn_own h
        · cases h
      · cases h
    · exact exKn_own h
theorem ownVals_r {os bad : List Nat} : ∀ (vs : List Value) (cs : List SC), ownVals vs (cs.map (exOCr st os bad)) = []
  | [], cs => by cases cs <;> rfl
  | v :: vs, [] => rfl
  | v :: vs, c :: cs => by
    have ih := ownVals_r (os := os) (bad := bad) vs cs
    cases c with
    | ref r n => simp only [List.map_cons, exOCr]; split <;> (try split) <;> simpa [ownVals] using ih
    | ptr o off => cases off <;> simp only [List.map_cons, exOCr] <;> (try split) <;> simpa [ownVals] using ih
    | _ => simpa [ownVals, exOCr] using ih

/-- The cells of the objects, as they lie. -/
theorem objs_cells (hm : Mem C.P w0 F ρ st w) (rd : Bool) (os bad : List Nat) : ∀ {l : List Nat} {ho : List HO}, exHO st rd os bad l = some ho → ∃ cv : List (List Value), All3 (fun g vs (h : HO) => w.heap[g]? = some (.cells vs.toArray h.T (0, 0))) (l.map ρ.os) cv ho ∧
      All3 (fun o vs (h : HO) => ∃ ob, look st.ob o = some ob ∧ h.own = obOwn rd ob ∧ h.ecs = exCs st rd os bad ob ∧ All2 (scOk ρ st) vs ob.cs) l cv ho ∧ (ownValsO cv (ho.map HO.ecs)).map Value.ownBlock = (exKn st rd l).map (fun r => (ρ.rs r).ownBlock) ∧ gOwn (l.map ρ.os) ho = l.map (oB st rd ρ)
  | [], ho, h => by simp only [exHO] at h; injection h with h; subst h; exact ⟨[], .nil, .nil, rfl, rfl⟩
  | o :: r, ho, h => by
    simp only [exHO] at h
    split at h
    · rename_i ob l e1 e2
      injection h with h; subst h
      obtain ⟨cv, h1, h2, h3, h6⟩ := objs_cells hm rd os bad e2
      obtain ⟨_, vs, h4, h5⟩ := hm.ob o ob e1
      refine ⟨vs :: cv, .cons h4 h1, .cons ⟨ob, e1, rfl, exCs_ecs _ _ _ _ _, h5⟩ h2, ?_, ?_⟩
      · simp only [List.map_cons, ownValsO, List.map_append, h3, exKn, e1, exCs_ecs]
        congr 1
        unfold exCs exKn1
        cases obOwn rd ob with
        | true => exact exOwn_blks hm os h5
        | false => simp only [ownVals_r, List.map_nil]
      · simp only [List.map_cons, gOwn, h6, oB, e1]
    · cases h

/-- All that is handed over lies apart. -/
theorem ex_apart (hm : Mem C.P w0 F ρ st w) {rd : Bool} {os ms kn : List Nat} (ho : os.Nodup) (hn : (ms ++ kn).Nodup) (hrows : ∀ r ∈ ms ++ kn, ∃ row, look st.rw r = some row ∧ row.own = true) :
    Apart (os.map (oB st rd ρ) ++ (ms ++ kn).map fun r => (ρ.rs r).ownBlock) := by
  have key : ∀ o b, oB st rd ρ o = some b → ∃ ob, look st.ob o = some ob ∧ ob.own = true ∧ ρ.os o = b := by
    intro o b h
    unfold oB at h
    split at h
    · rename_i ob e
      split at h
      · rename_i e2
        injection h with h
        refine ⟨ob, e, ?_, h⟩
        cases rd with
        | true => cases e2
        | false => exact e2
      · cases h
    · cases h
  unfold Apart
  rw [List.pairwise_append]
  refine ⟨?_, ?_, ?_⟩
  · rw [List.pairwise_map]
    refine List.Pairwise.imp_of_mem ?_ ho
    intro x y hx hy hne b hb hb2
    obtain ⟨ob, e1, e3, e5⟩ := key x b hb
    obtain ⟨ob', e2, e4, e6⟩ := key y b hb2
    exact hm.oo x y ob ob' e1 e2 (.inl e3) hne (by rw [e5, e6])
  · rw [List.pairwise_map]
    refine List.Pairwise.imp_of_mem ?_ hn
    intro x y hx hy hne b hb hb2
    obtain ⟨row, e1, e2⟩ := hrows x hx
    obtain ⟨row', e3, e4⟩ := hrows y hy
    exact hm.rr x y row row' e1 e3 (.inl e2) hne b (by simpa [rblk, e2] using hb) (by simpa [rblk, e4] using hb2)
  · intro x hx y hy b hb hb2
    obtain ⟨o, ho, rfl⟩ := List.mem_map.1 hx
    obtain ⟨r, hr, rfl⟩ := List.mem_map.1 hy
    obtain ⟨ob, e1, _, e5⟩ := key o b hb
    obtain ⟨row, e2, e3⟩ := hrows r hr
    exact hm.ro r o row ob e2 e1 (.inl e3) (by rw [e5]; simpa [rblk, e3] using hb2)

theorem oB_some {rd : Bool} {o b : Nat} (h : oB st rd ρ o = some b) : ∃ ob, look st.ob o = some ob ∧ ob.own = true ∧ ρ.os o = b := by
  unfold oB at h
  split at h
  · rename_i ob e
    split at h
    · rename_i e2
      injection h with h
      refine ⟨ob, e, ?_, h⟩
      cases rd with
      | true => cases e2
      | false => exact e2
    · cases h
  · cases h
/-- Of the rows that are not handed over none lies in what is. -/
theorem not_in (hm : Mem C.P w0 F ρ st w) {rd : Bool} {os ms kn : List Nat} (hrows : ∀ r ∈ ms ++ kn, ∃ row, look st.rw r = some row ∧ row.own = true) {r : Nat} {row : Row} (hr : look st.rw r = some row) (hn : r ∉ ms ++ kn) :
    ∀ b, rblk row (ρ.rs r) = some b → some b ∉ os.map (oB st rd ρ) ++ (ms ++ kn).map fun r => (ρ.rs r).ownBlock := by
  intro b hb hmem
  rcases List.mem_append.1 hmem with h | h
  · obtain ⟨o, ho, e⟩ := List.mem_map.1 h
    obtain ⟨ob, e1, e2, e3⟩ := oB_some e
    exact hm.ro r o row ob hr e1 (.inr e2) (by rw [hb, e3])
  · obtain ⟨r', hr', e⟩ := List.mem_map.1 h
    obtain ⟨row', e1, e2⟩ := hrows r' hr'
    exact hm.rr r r' row row' hr e1 (.inr e2) (fun e3 => hn (e3 ▸ hr')) b hb (by simpa [rblk, e2] using e)
theorem not_in_ob (hm : Mem C.P w0 F ρ st w) {rd : Bool} {os ms kn : List Nat} (hrows : ∀ r ∈ ms ++ kn, ∃ row, look st.rw r = some row ∧ row.own = true) {o : Nat} {ob : Ob} (hr : look st.ob o = some ob) (hn : o ∈ os → oB st rd ρ o = none) :
    some (ρ.os o) ∉ os.map (oB st rd ρ) ++ (ms ++ kn).map fun r => (ρ.rs r).ownBlock := by
  intro hmem
  rcases List.mem_append.1 hmem with h | h
  · obtain ⟨o', ho, e⟩ := List.mem_map.1 h
    obtain ⟨ob', e1, e2, e3⟩ := oB_some e
    refine hm.oo o o' ob ob' hr e1 (.inr e2) (fun e4 => ?_) e3.symm
    subst e4
    rw [hn ho] at e; cases e
  · obtain ⟨r', hr', e⟩ := List.mem_map.1 h
    obtain ⟨row', e1, e2⟩ := hrows r' hr'
    exact hm.ro r' o row' ob e1 hr (.inl e2) (by simpa [rblk, e2] using e)

/-- The head of a slice that is read. -/
theorem rd_prefix {P : Program} {el : El} (hel : el.Ok P) {A : Option Addr} {m c n : Nat} {xs : List el.α} (h : rdRow w el (.slice A m c) xs) (hn : n ≤ xs.length) : rdRow w el (.slice A n c) (xs.take n) := by
  obtain ⟨A', c', e, h1, h2, h3⟩ := h
  injection e with e1 e2 e3
  subst e1; subst e3
  have hl : (xs.take n).length = n := by rw [List.length_take]; omega
  refine ⟨A, c, by rw [hl], by rw [hl]; omega, h2, fun hp => ?_⟩
  rw [hl] at hp
  obtain ⟨ad, e4, hc⟩ := h3 (by omega)
  refine ⟨ad, e4, fun k u hu => hc k u ?_⟩
  rw [take_flat hel, List.getElem?_take] at hu
  split at hu
  · exact hu
  · cases hu

theorem mapM_opt {α : Type _} {β : Type _} {f : α → Option β} : ∀ {l : List α} {r : List β}, l.mapM f = some r → All2 (fun x y => f x = some y) l r
  | [], r, h => by simp at h; subst h; exact .nil
  | x :: l, r, h => by
    simp only [List.mapM_cons] at h
    cases e1 : f x with
    | none => simp [e1] at h
    | some y =>
      cases e2 : l.mapM f with
      | none => simp [e1, e2] at h
      | some ys =>
        simp [e1, e2] at h
        subst h
        exact .cons e1 (mapM_opt e2)
theorem All2.comp {α β γ : Type _} {r : α → β → Prop} {s : β → γ → Prop} {t : α → γ → Prop} (hrs : ∀ x y z, r x y → s y z → t x z) : ∀ {xs : List α} {ys : List β} {zs : List γ}, All2 r xs ys → All2 s ys zs → All2 t xs zs
  | _, _, _, .nil, .nil => .nil
  | _, _, _, .cons h hs, .cons k ks => .cons (hrs _ _ _ h k) (hs.comp hrs ks)

theorem exA1_ok (hm : Mem C.P w0 F ρ st w) {rd : Bool} {os ms kn : List Nat} (hobs : ∀ o ∈ os, ∃ ob, look st.ob o = some ob) (hrows : ∀ r ∈ ms ++ kn, ∃ row, look st.rw r = some row ∧ row.own = true) (hkn : ∀ r ∈ kn, (idx kn r).isSome) (hms : ∀ r ∈ ms, (idx ms r).isSome) {v : Value} {c : SC} {ac : AC1} (hv : scOk ρ st v c) (h : exA1 st os ms kn c = some ac) :
    acOk1 C.P w (fun b => some b ∈ os.map (oB st rd ρ) ++ (ms ++ kn).map fun r => (ρ.rs r).ownBlock) (os.map ρ.os) (ms.map ρ.rs) v ac := by
  cases c with
  | val x => simp only [exA1] at h; injection h with h; subst h; exact hv
  | ref r n =>
    simp only [exA1] at h
    split at h
    · rename_i row e1
      obtain ⟨A, m, c, e2, e3, hn⟩ := hv.2 row e1
      have hrow := hm.row r row e1
      obtain ⟨A', c', e4, _, _, _⟩ := row_rd hrow
      split at h
      · rename_i k e5
        injection h with h; subst h
        rw [e2] at e4; injection e4 with e7 e8 e9
        exact ⟨A, m, c, by rw [List.getElem?_map, idx_get e5]; simp [e2], e3, by omega⟩
      · rename_i e5
        split at h
        · cases h
        · rename_i e6
          injection h with h; subst h
          have hnin : r ∉ ms ++ kn := by
            intro hmem
            rcases List.mem_append.1 hmem with h1 | h1
            · have := hms r h1; rw [e5] at this; cases this
            · exact e6 (hkn r h1)
          have hrd := row_rd hrow
          rw [e2] at hrd
          rw [e3]
          refine ⟨hrow.1, rd_prefix hrow.1 hrd hn, fun hp b hb => ?_⟩
          have hl : (row.xs.take n).length = n := by rw [List.length_take]; omega
          refine not_in hm hrows e1 hnin b ?_
          unfold rblk
          rw [if_neg (fun e => by rw [hl] at hp; omega), e2, ← hb]
          cases A <;> rfl
    · cases h
  | ptr o off =>
    cases off with
    | zero =>
      simp only [exA1, Option.map_eq_some_iff] at h
      obtain ⟨k, hk, rfl⟩ := h
      have hg := idx_get hk
      obtain ⟨ob, e⟩ := hobs o (List.mem_of_getElem? hg)
      exact ⟨ρ.os o, by rw [List.getElem?_map, hg]; rfl, hv.2 ob e⟩
    | succ _ => simp [exA1] at h
  | clo f l =>
    simp only [exA1, Option.map_eq_some_iff] at h
    obtain ⟨ks, hk, rfl⟩ := h
    have h2 := mapM_opt hk
    have hlive : ∀ o ∈ l, (look st.ob o).isSome := by
      intro o ho
      clear hv hk
      induction h2 with
      | nil => cases ho
      | cons hx _ ih =>
        rcases List.mem_cons.1 ho with rfl | ho
        · obtain ⟨ob, e⟩ := hobs _ (List.mem_of_getElem? (idx_get hx)); rw [e]; rfl
        · exact ih ho
    refine ⟨l.map ρ.os, ?_, ?_⟩
    · clear hv hlive hk
      induction h2 with
      | nil => exact .nil
      | cons hx _ ih => exact .cons (by rw [List.getElem?_map, idx_get hx]; rfl) ih
    · rw [hv.2 hlive]; simp [List.map_map]
  | eptr r i j =>
    cases j with
    | succ _ => simp [exA1] at h
    | zero =>
      simp only [exA1] at h
      split at h
      · rename_i k row e5 e1
        injection h with h; subst h
        obtain ⟨ad, m, c, e2, e3, hn⟩ := hv.2 row e1
        obtain ⟨A', c', e4, _, _, _⟩ := row_rd (hm.row r row e1)
        rw [e2] at e4; injection e4 with e7 e8 e9
        exact ⟨ad, m, c, by rw [List.getElem?_map, idx_get e5]; simp [e2], e3, by omega⟩
      · cases h
  | undef => simp [exA1] at h

end
end Go.Proofs.Ytjmhffbenbiieaa.Ev
