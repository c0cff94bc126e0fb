/- Part 21: a function's contract by its code: the state at its beginning. -/
import Derived.Test.YtjmhffbenbiieaaEv20
set_option linter.unusedVariables false
set_option linter.unusedSimpArgs false
namespace Go.Proofs.Ytjmhffbenbiieaa.Ev
open Go.RowKit

/-! ### 1. The state at the beginning -/
def enCells : Nat → List OC → List SC
  | _, [] => []
  | n, .val v :: cs => .val v :: enCells n cs
  | n, .own el xs :: cs => .ref n xs.length :: enCells (n + 1) cs
  | n, .ro el xs :: cs => .ref n xs.length :: enCells (n + 1) cs
  | n, .ptr k :: cs => .ptr k 0 :: enCells n cs
  | n, .keep :: cs => .undef :: enCells n cs
  | n, .any :: cs => .undef :: enCells n cs
def rowsC : List OC → List Row
  | [] => []
  | .own el xs :: cs => ⟨true, el, xs⟩ :: rowsC cs
  | .ro el xs :: cs => ⟨false, el, xs⟩ :: rowsC cs
  | _ :: cs => rowsC cs
def valsC : List Value → List OC → List Value
  | v :: vs, .own _ _ :: cs => v :: valsC vs cs
  | v :: vs, .ro _ _ :: cs => v :: valsC vs cs
  | _ :: vs, _ :: cs => valsC vs cs
  | _, _ => []
def roNames : Nat → List OC → List Nat
  | _, [] => []
  | n, .own _ _ :: cs => roNames (n + 1) cs
  | n, .ro _ _ :: cs => n :: roNames (n + 1) cs
  | n, _ :: cs => roNames n cs
def enObs : Nat → List HO → List Ob
  | _, [] => []
  | n, h :: hs => ⟨h.T, enCells n h.ecs, h.own⟩ :: enObs (n + (rowsC h.ecs).length) hs
def rowsO : List HO → List Row
  | [] => []
  | h :: hs => rowsC h.ecs ++ rowsO hs
def valsO : List (List Value) → List HO → List Value
  | v :: vs, h :: hs => valsC v h.ecs ++ valsO vs hs
  | _, _ => []
def roNamesO : Nat → List HO → List Nat
  | _, [] => []
  | n, h :: hs => roNames n h.ecs ++ roNamesO (n + (rowsC h.ecs).length) hs
def enA1 (m0 : Nat) (hm : List Row) (n : Nat) : AC1 → SC
  | .val v => .val v
  | .row _ xs => .ref n xs.length
  | .obj k => .ptr k 0
  | .wr k n => .ref (m0 + k) n
  | .elp k i sz => match hm[k]? with
    | some row => if row.el.sz = sz then .eptr (m0 + k) i 0 else .undef
    | none => .undef
  | .fn f ks => .clo f ks
def rowsA1 : AC1 → List Row
  | .row el xs => [⟨false, el, xs⟩]
  | _ => []
def valsA1 (v : Value) : AC1 → List Value
  | .row _ _ => [v]
  | _ => []
def enAs1 (m0 : Nat) (hm : List Row) : Nat → List AC1 → List SC
  | _, [] => []
  | n, c :: cs => enA1 m0 hm n c :: enAs1 m0 hm (n + (rowsA1 c).length) cs
def rowsAs1 : List AC1 → List Row
  | [] => []
  | c :: cs => rowsA1 c ++ rowsAs1 cs
def valsAs1 : List Value → List AC1 → List Value
  | v :: vs, c :: cs => valsA1 v c ++ valsAs1 vs cs
  | _, _ => []
def enA (m0 : Nat) (hm : List Row) (n : Nat) : AC → PV
  | .one c => .one (enA1 m0 hm n c)
  | .agg cs => .agg (enAs1 m0 hm n cs)
def rowsA : AC → List Row
  | .one c => rowsA1 c
  | .agg cs => rowsAs1 cs
def valsA (v : Value) : AC → List Value
  | .one c => valsA1 v c
  | .agg cs => valsAs1 v.cells.toList cs
def enSl (m0 : Nat) (hm : List Row) : Nat → Nat → List AC → List (Nat × SV)
  | _, _, [] => []
  | t, n, c :: cs => (t, .pv (enA m0 hm n c)) :: enSl m0 hm (t + 1) (n + (rowsA c).length) cs
def rowsAs : List AC → List Row
  | [] => []
  | c :: cs => rowsA c ++ rowsAs cs
def valsAs : List Value → List AC → List Value
  | v :: vs, c :: cs => valsA v c ++ valsAs vs cs
  | _, _ => []
def entry (args : List AC) (ho : List HO) (hm : List Row) : St where
  sl := enSl ho.length hm 0 (ho.length + hm.length + (rowsO ho).length) args
  rw := numb ho.length (hm ++ (rowsO ho ++ rowsAs args))
  ob := numb 0 (enObs (ho.length + hm.length) ho)
  nx := ho.length + (hm ++ (rowsO ho ++ rowsAs args)).length
  po := List.range ho.length
  pr := List.range' ho.length hm.length ++ roNamesO (ho.length + hm.length) ho

/-- The blocks of the rows that are the call's own. -/
def ownB : List Value → List Row → List (Option Nat)
  | v :: vs, row :: rows => if row.own = true then v.ownBlock :: ownB vs rows else ownB vs rows
  | _, _ => []

section
variable {C : Cx} {w0 : World} {F : Nat → Prop} {G : List Nat} {U : List Value} {nt : Nat} {ρ : Rho} {st st' : St} {a : Act} {w : World} {P : Program} {B : Nat → Prop} {gs : List Nat} {us : List Value}

/-- What is asked of a row at the beginning. -/
def rowIn (P : Program) (w : World) (B : Nat → Prop) (v : Value) (row : Row) : Prop :=
  rowOk P w B w v row ∧ (row.own = false → ∀ b, rblk row v = some b → ¬ B b)

theorem rowIn_ro {el : El} {xs : List el.α} {v : Value} (h1 : el.Ok P) (h2 : rdRow w el v xs) (h3 : xs.length ≠ 0 → ∀ b, v.ownBlock = some b → ¬ B b) : rowIn P w B v ⟨false, el, xs⟩ := by
  refine ⟨⟨h1, by simpa using h2⟩, fun _ b hb => ?_⟩
  unfold rblk at hb
  split at hb
  · cases hb
  · rename_i hn
    exact h3 (fun e => hn ⟨rfl, e⟩) b hb
theorem rowsC_in {vs : List Value} {cs : List OC} (hB : ∀ b, some b ∈ (ownVals vs cs).map Value.ownBlock → B b) (h : All2 (ocOk P w B gs) vs cs) : All2 (rowIn P w B) (valsC vs cs) (rowsC cs) := by
  induction h with
  | nil => exact .nil
  | @cons v c vs cs hx hr ih =>
    cases c with
    | own el xs =>
      refine .cons ⟨⟨hx.1, ?_⟩, by simp⟩ (ih fun b hb => hB b (by simp only [ownVals, List.map_cons, List.mem_cons]; exact .inr hb))
      simp only [if_true]
      exact ⟨hx.2, fun b hb => .inr (hB b (by simp [ownVals, hb]))⟩
    | ro el xs => exact .cons (rowIn_ro hx.1 hx.2.1 hx.2.2) (ih hB)
    | _ => exact ih hB
theorem rowsO_in : ∀ {l : List Nat} {cv : List (List Value)} {ho : List HO}, (∀ b, some b ∈ (ownValsO cv (ho.map HO.ecs)).map Value.ownBlock → B b) → All3 (objOk P w B gs) l cv ho → All2 (rowIn P w B) (valsO cv ho) (rowsO ho)
  | _, _, _, _, .nil => .nil
  | _, _, _, hB, .cons h hr => (rowsC_in (fun b hb => hB b (by simp only [List.map_cons, ownValsO, List.map_append, List.mem_append]; exact .inl hb)) h.2.1).append (rowsO_in (fun b hb => hB b (by simp only [List.map_cons, ownValsO, List.map_append, List.mem_append]; exact .inr hb)) hr)
theorem rowsA1_in {v : Value} {c : AC1} (h : acOk1 P w B gs us v c) : All2 (rowIn P w B) (valsA1 v c) (rowsA1 c) := by
  cases c with
  | row el xs => exact .cons (rowIn_ro h.1 h.2.1 h.2.2) .nil
  | _ => exact .nil
theorem rowsAs1_in : ∀ {vs : List Value} {cs : List AC1}, All2 (acOk1 P w B gs us) vs cs → All2 (rowIn P w B) (valsAs1 vs cs) (rowsAs1 cs)
  | _, _, .nil => .nil
  | _, _, .cons h hr => (rowsA1_in h).append (rowsAs1_in hr)
theorem rowsA_in {v : Value} {c : AC} (h : acOk P w B gs us v c) : All2 (rowIn P w B) (valsA v c) (rowsA c) := by
  cases c with
  | one c => exact rowsA1_in h
  | agg cs => obtain ⟨vs, rfl, hv⟩ := h; simpa [valsA, rowsA, Value.cells] using rowsAs1_in hv
theorem rowsAs_in : ∀ {vs : List Value} {cs : List AC}, All2 (acOk P w B gs us) vs cs → All2 (rowIn P w B) (valsAs vs cs) (rowsAs cs)
  | _, _, .nil => .nil
  | _, _, .cons h hr => (rowsA_in h).append (rowsAs_in hr)

theorem ownB_append : ∀ {vs vs' : List Value} {rows rows' : List Row}, vs.length = rows.length → ownB (vs ++ vs') (rows ++ rows') = ownB vs rows ++ ownB vs' rows'
  | [], _, [], _, _ => rfl
  | v :: vs, vs', row :: rows, rows', h => by
    have ih := ownB_append (vs := vs) (vs' := vs') (rows := rows) (rows' := rows') (by simpa using h)
    simp only [List.cons_append, ownB, ih]
    split <;> simp
theorem ownB_us : ∀ {us : List Value} {hm : List Row}, All2 (rowOwn P w) us hm → ownB us hm = us.map Value.ownBlock
  | _, _, .nil => rfl
  | _, _, .cons h hr => by simp [ownB, h.1, ownB_us hr]
theorem ownB_C : ∀ {vs : List Value} {cs : List OC}, All2 (ocOk P w B gs) vs cs → ownB (valsC vs cs) (rowsC cs) = (ownVals vs cs).map Value.ownBlock
  | _, _, .nil => rfl
  | _, _, .cons (y := c) h hr => by
    have ih := ownB_C hr
    cases c <;> simp [valsC, rowsC, ownB, ownVals, ih]
theorem ownB_O : ∀ {l : List Nat} {cv : List (List Value)} {ho : List HO}, (∀ b, some b ∈ (ownValsO cv (ho.map HO.ecs)).map Value.ownBlock → B b) → All3 (objOk P w B gs) l cv ho → ownB (valsO cv ho) (rowsO ho) = (ownValsO cv (ho.map HO.ecs)).map Value.ownBlock
  | _, _, _, _, .nil => rfl
  | _, _, _, hB, .cons h hr => by
    have hB1 : ∀ b, some b ∈ (ownVals _ _).map Value.ownBlock → B b := fun b hb => hB b (by simp only [List.map_cons, ownValsO, List.map_append, List.mem_append]; exact .inl hb)
    have hB2 : ∀ b, some b ∈ (ownValsO _ _).map Value.ownBlock → B b := fun b hb => hB b (by simp only [List.map_cons, ownValsO, List.map_append, List.mem_append]; exact .inr hb)
    simp only [valsO, rowsO, List.map_cons, ownValsO, List.map_append]
    rw [ownB_append (rowsC_in hB1 h.2.1).length, ownB_C h.2.1, ownB_O hB2 hr]
theorem ownB_none : ∀ {vs : List Value} {rows : List Row}, (∀ row ∈ rows, row.own = false) → ownB vs rows = []
  | [], _, _ => by simp [ownB]
  | _ :: _, [], _ => rfl
  | v :: vs, row :: rows, h => by
    simp only [ownB, h row (by simp)]
    exact ownB_none fun r hr => h r (by simp [hr])
theorem rowsAs1_ro : ∀ {cs : List AC1}, ∀ row ∈ rowsAs1 cs, row.own = false
  | [], row, h => by cases h
  | c :: cs, row, h => by
    simp only [rowsAs1, List.mem_append] at h
    rcases h with h | h
    · cases c <;> simp [rowsA1] at h; subst h; rfl
    · exact rowsAs1_ro row h
theorem rowsAs_ro : ∀ {cs : List AC}, ∀ row ∈ rowsAs cs, row.own = false
  | [], row, h => by cases h
  | c :: cs, row, h => by
    simp only [rowsAs, List.mem_append] at h
    rcases h with h | h
    · cases c with
      | one c => exact rowsAs1_ro (cs := [c]) row (by simpa [rowsAs1, rowsA] using h)
      | agg cs => exact rowsAs1_ro row h
    · exact rowsAs_ro row h

/-- Rows of which one is the call's own lie apart. -/
theorem dist : ∀ {vs : List Value} {rows : List Row}, All2 (rowIn P w B) vs rows → Apart (ownB vs rows) → (∀ b, some b ∈ ownB vs rows → B b) → ∀ {i j : Nat} {v v' : Value} {row row' : Row}, vs[i]? = some v → rows[i]? = some row → vs[j]? = some v' → rows[j]? = some row' → i ≠ j →
    (row.own = true ∨ row'.own = true) → ∀ b, rblk row v = some b → rblk row' v' ≠ some b
  | _, _, .nil, _, _, i, j, v, v', row, row', h1, _, _, _, _, _, _, _ => by simp at h1
  | _, _, .cons (x := u) (y := q) (xs := vs) (ys := rows) hx hr, hap, hB, i, j, v, v', row, row', h1, h2, h3, h4, hne, ho, b, hb => by
    have mem : ∀ {vs : List Value} {rows : List Row} {i : Nat} {v : Value} {row : Row}, vs[i]? = some v → rows[i]? = some row → row.own = true → v.ownBlock ∈ ownB vs rows := by
      intro vs
      induction vs with
      | nil => intro rows i v row h; simp at h
      | cons a vs ih =>
        intro rows i v row h1 h2 h3
        cases rows with
        | nil => simp at h2
        | cons r rows =>
          cases i with
          | zero => simp at h1 h2; subst h1; subst h2; simp [ownB, h3]
          | succ i =>
            have := ih (by simpa using h1) (by simpa using h2) h3
            simp only [ownB]; split
            · exact List.mem_cons_of_mem _ this
            · exact this
    have get : ∀ {i : Nat} {v : Value} {row : Row}, vs[i]? = some v → rows[i]? = some row → rowIn P w B v row := by
      intro i v row e1 e2
      obtain ⟨v', e3, e4⟩ := hr.get e2
      rw [e1] at e3; injection e3 with e3; subst e3; exact e4
    have hap' : Apart (ownB vs rows) := by
      simp only [ownB] at hap; split at hap
      · exact (List.pairwise_cons.1 hap).2
      · exact hap
    have hB' : ∀ b, some b ∈ ownB vs rows → B b := by
      intro b hb; apply hB; simp only [ownB]; split
      · exact List.mem_cons_of_mem _ hb
      · exact hb
    have two : ∀ {i : Nat} {v : Value} {row : Row}, vs[i]? = some v → rows[i]? = some row → (q.own = true ∨ row.own = true) → ∀ b, rblk q u = some b → rblk row v = some b → False := by
      intro i v row e1 e2 ho b hb hb'
      cases hq : q.own with
      | true =>
        have hbq : u.ownBlock = some b := by simpa [rblk, hq] using hb
        cases hr2 : row.own with
        | true =>
          have hbr : v.ownBlock = some b := by simpa [rblk, hr2] using hb'
          have h5 := mem e1 e2 hr2
          simp only [ownB, hq, if_true] at hap
          exact (List.pairwise_cons.1 hap).1 _ h5 b hbq hbr
        | false => exact (get e1 e2).2 hr2 b hb' (hB b (by simp [ownB, hq, hbq]))
      | false =>
        rw [hq] at ho
        have hr2 : row.own = true := by simpa using ho
        have hbr : v.ownBlock = some b := by simpa [rblk, hr2] using hb'
        exact hx.2 hq b hb (hB' b (by rw [← hbr]; exact mem e1 e2 hr2))
    cases i with
    | zero =>
      simp only [List.getElem?_cons_zero, Option.some.injEq] at h1 h2; subst h1; subst h2
      cases j with
      | zero => exact absurd rfl hne
      | succ j => exact fun hb' => two (by simpa using h3) (by simpa using h4) ho b hb hb'
    | succ i =>
      cases j with
      | zero =>
        simp only [List.getElem?_cons_zero, Option.some.injEq] at h3 h4; subst h3; subst h4
        exact fun hb' => two (by simpa using h1) (by simpa using h2) ho.symm b hb' hb
      | succ j => exact dist hr hap' hB' (by simpa using h1) (by simpa using h2) (by simpa using h3) (by simpa using h4) (fun e => hne (by rw [e])) ho b hb
end
end Go.Proofs.Ytjmhffbenbiieaa.Ev
