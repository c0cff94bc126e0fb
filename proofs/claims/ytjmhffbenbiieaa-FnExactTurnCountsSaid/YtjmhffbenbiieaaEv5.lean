/- Part 5: reading and writing memory through pointers; addresses of fields and elements. -/
import Derived.Test.YtjmhffbenbiieaaEv4
set_option linter.unusedVariables false
set_option linter.unusedSimpArgs false
namespace Go.Proofs.Ytjmhffbenbiieaa.Ev
open Go.RowKit

/-! ### 1. Rows as lists of cells -/
theorem flat_length {P : Program} {e : El} (h : e.Ok P) (xs : List e.α) : (e.flat xs).length = xs.length * e.sz := by
  induction xs with
  | nil => simp [El.flat]
  | cons x xs ih =>
    have hc : e.flat (x :: xs) = e.enc x ++ e.flat xs := rfl
    rw [hc, List.length_append, h.len, ih, List.length_cons, Nat.add_mul, Nat.one_mul, Nat.add_comm]
theorem flat_append {e : El} (xs ys : List e.α) : e.flat (xs ++ ys) = e.flat xs ++ e.flat ys := by simp [El.flat]
theorem flat_get {P : Program} {e : El} (h : e.Ok P) (xs : List e.α) (i j : Nat) (hi : i < xs.length) (hj : j < e.sz) : (e.flat xs)[i * e.sz + j]? = (e.enc (xs.getD i e.zero))[j]? := by
  induction xs generalizing i with
  | nil => simp at hi
  | cons x xs ih =>
    have hc : e.flat (x :: xs) = e.enc x ++ e.flat xs := rfl
    rw [hc]
    cases i with
    | zero => simp [List.getElem?_append, h.len, hj]
    | succ i =>
      rw [List.getElem?_append_right (by rw [h.len, Nat.add_mul, Nat.one_mul]; omega), h.len]
      have : (i + 1) * e.sz + j - e.sz = i * e.sz + j := by rw [Nat.add_mul, Nat.one_mul]; omega
      rw [this, ih i (by simpa using hi)]
      simp
theorem flat_set {P : Program} {e : El} (h : e.Ok P) (xs : List e.α) (i : Nat) (y : e.α) (hi : i < xs.length) : e.flat (xs.set i y) = (e.flat xs).take (i * e.sz) ++ e.enc y ++ (e.flat xs).drop ((i + 1) * e.sz) := by
  induction xs generalizing i with
  | nil => simp at hi
  | cons x xs ih =>
    have hc : ∀ x xs, e.flat (x :: xs) = e.enc x ++ e.flat xs := fun _ _ => rfl
    have hl := h.len x
    cases i with
    | zero => simp only [List.set_cons_zero, hc, Nat.zero_mul, List.take_zero, List.nil_append, Nat.zero_add, Nat.one_mul]; rw [← hl, List.drop_left]
    | succ i =>
      simp only [List.set_cons_succ, hc]
      rw [ih i (by simpa using hi)]
      have e1 : (i + 1) * e.sz = (e.enc x).length + i * e.sz := by rw [hl, Nat.add_mul, Nat.one_mul, Nat.add_comm]
      have e2 : (i + 1 + 1) * e.sz = (e.enc x).length + (i + 1) * e.sz := by rw [hl, Nat.add_mul (i + 1), Nat.one_mul, Nat.add_comm]
      rw [e2, e1, List.drop_append, List.take_append]
      simp [Nat.add_sub_cancel_left, List.take_of_length_le, List.drop_eq_nil_of_le]

section
variable {C : Cx} {w0 : World} {F : Nat → Prop} {G : List Nat} {U : List Value} {nt : Nat} {ρ : Rho} {st : St} {a : Act} {w : World}

theorem add_add (ad : Addr) (x y : Nat) : (ad.add x).add y = ad.add (x + y) := by
  unfold Addr.add
  by_cases h1 : x = 0 <;> by_cases h2 : y = 0 <;> simp [h1, h2, Nat.add_assoc]
theorem add_lit (g o k : Nat) : (⟨g, o, none⟩ : Addr).add k = ⟨g, o + k, none⟩ := by unfold Addr.add; split <;> simp_all

/-- A row's cells, wherever it lies. -/
theorem row_cells {P : Program} {v : Value} {row : Row} (h : rowOk P w0 F w v row) {ad : Addr} {m c : Nat} (hv : v = .slice (some ad) m c) (k : Nat) (u : Value) (hu : (row.el.flat row.xs)[k]? = some u) : w.cell? (ad.add k) = some u := by
  obtain ⟨hel, h⟩ := h
  split at h
  · obtain ⟨ho, _⟩ := h
    have hb : v.ownBlock = some ad.block := by rw [hv]; rfl
    rcases ho.2 with ⟨e, _⟩ | ⟨g, cap, cur, e, _, _, _, _, _, _⟩
    · rw [hv] at e; cases e
    · rw [hv] at e; injection e with e; injection e with e; subst e
      exact ho.cells hb k u hu
  · obtain ⟨A, c', e, h1, h2, h3⟩ := h
    rw [hv] at e
    injection e with e e2 e3
    have hp : 0 < row.xs.length := by
      rcases Nat.eq_zero_or_pos row.xs.length with h0 | h0
      · rw [List.eq_nil_of_length_eq_zero h0] at hu; simp [El.flat] at hu
      · exact h0
    obtain ⟨ad', e4, hc⟩ := h3 hp
    rw [e4] at e; injection e with e; subst e
    exact hc k u hu

/-! ### 2. Loads -/
def ldCells (l : Lay) (cs : List SC) (off : Nat) : Option SV :=
  match l with
  | .st sz _ _ => if off + sz ≤ cs.length then some (.pv (.agg ((cs.drop off).take sz))) else none
  | _ => (cs[off]?).map fun c => .pv (.one c)
def ldElem (l : Lay) (vs : List Value) (j : Nat) : Option SV :=
  match l with
  | .st sz _ _ => if j + sz ≤ vs.length then some (.pv (.agg (((vs.drop j).take sz).map .val))) else none
  | _ => (vs[j]?).map fun v => .pv (.one (.val v))

def Lay.cnt : Lay → Nat
  | .st sz _ _ => sz
  | _ => 1
theorem run_loadVar {P : Program} {t : Nat} {l : Lay} (hl : LayOk1 P t l) (ad : Addr) (vs : List Value) (hv : vs.length = l.cnt) (hc : ∀ k u, vs[k]? = some u → w.cell? (ad.add k) = some u) : ∃ v, (loadVar t ad).run P w = .ok v w ∧ match l with
    | .st _ _ _ => v = .agg vs.toArray
    | _ => vs = [v] := by
  have one : ∀ (z : Value) (d : TypeDesc) (i : TypeInfo), z.oneCell' = true → P.underlying t = some d → (∀ fs, d ≠ .struct fs) → (∀ n e, d ≠ .array n e) → vs.length = 1 → ∃ v, (loadVar t ad).run P w = .ok v w ∧ vs = [v] := by
    intro z d i _ hu h1 h2 hlen
    match vs, hlen with
    | [v], _ =>
      refine ⟨v, ?_, rfl⟩
      have h0 := hc 0 v rfl
      have ha : ad.add 0 = ad := by simp [Addr.add]
      rw [ha] at h0
      have hagg : (isAgg t).run P w = .ok false w := by
        simp only [isAgg, Sem.run_bind, run_underlying hu, Result.andThen_ok]
        cases d <;> first | rfl | exact absurd rfl (h1 _) | exact absurd rfl (h2 _ _)
      simp [loadVar, hagg, h0]
  cases l with
  | st sz zs fs =>
    obtain ⟨fa, i, hu, hi, hs, _⟩ := hl
    refine ⟨.agg vs.toArray, ?_, rfl⟩
    have hagg : (isAgg t).run P w = .ok true w := by simp [isAgg, run_underlying hu]
    have hlc := run_loadCells_list (P := P) w ad vs hc
    rw [show vs.length = sz from hv] at hlc
    simp [loadVar, hagg, sizeOf, typeInfo, hi, hs, hlc]
  | sc z => obtain ⟨h0, d, i, hu, h1, h2, _⟩ := hl; exact one z d i h0 hu h1 h2 hv
  | sl e => obtain ⟨hu, i, _⟩ := hl; exact one (.slice none 0 0) _ i rfl hu (by simp) (by simp) hv
  | str => obtain ⟨hu, i, _⟩ := hl; exact one (.string ⟨#[]⟩) _ i rfl hu (by simp) (by simp) hv

theorem take_drop_get (vs : List Value) (off sz k : Nat) (u : Value) (h : ((vs.drop off).take sz)[k]? = some u) : vs[off + k]? = some u := by
  rw [List.getElem?_take] at h
  split at h
  · rwa [List.getElem?_drop] at h
  · cases h

theorem does_load_ptr (hC : C.Ok) (h : Rel C.P w0 F G U nt ρ st a w) {o : Oper} {T : Nat} {x : Operand} {l : Lay} {q off : Nat} {ob : Ob} {s : SV} (ho : o.op = .load T x) (hl : C.lay T = some l) (hx : ev st x = .pv (.one (.ptr q off))) (hq : look st.ob q = some ob)
    (hs : ldCells l ob.cs off = some s) : Reads C ρ st o a w s := by
  have hv := ev_ok h x
  rw [hx] at hv
  have hp : a.eval x = .pointer (some ⟨ρ.os q, off, none⟩) := hv.2 ob hq
  obtain ⟨_, vs, hh, hvs⟩ := h.mem.ob q ob hq
  have hcell : ∀ k u, (vs.drop off)[k]? = some u → w.cell? ((⟨ρ.os q, off, none⟩ : Addr).add k) = some u := by
    intro k u hu
    rw [add_lit, cell_of_row w _ _ _ _ _ hh]
    rw [List.getElem?_drop] at hu
    simpa using hu
  have fin : ∀ v, (loadVar T ⟨ρ.os q, off, none⟩).run C.P w = .ok v w → svOk ρ st v s → Reads C ρ st o a w s := by
    intro v hr hsv
    refine ⟨v, ?_, hsv⟩
    simp only [execOp, ho, Instr.loadAt, Instr.sureAddr, hp, Sem.run_bind, Sem.run_pure, Result.andThen_ok, hr]
  cases l with
  | st sz zs fs =>
    simp only [ldCells] at hs
    split at hs
    · rename_i hle
      injection hs with hs; subst hs
      have hlen := hvs.length
      obtain ⟨v, hr, hvv⟩ := run_loadVar (w := w) (hC.lay T _ hl) ⟨ρ.os q, off, none⟩ ((vs.drop off).take sz) (by show _ = sz; rw [List.length_take, List.length_drop]; omega) (fun k u hu => hcell k u (by
        rw [List.getElem?_take] at hu; split at hu
        · exact hu
        · cases hu))
      exact fin v hr ⟨_, hvv, (hvs.drop off).take sz⟩
    · cases hs
  | _ =>
    simp only [ldCells, Option.map_eq_some_iff] at hs
    obtain ⟨c, hc, rfl⟩ := hs
    obtain ⟨u, hu, huc⟩ := hvs.get hc
    obtain ⟨v, hr, hvv⟩ := run_loadVar (w := w) (hC.lay T _ hl) ⟨ρ.os q, off, none⟩ [u] rfl (fun k u' hu' => by
      cases k with
      | zero => simp at hu'; subst hu'; exact hcell 0 u (by rw [List.getElem?_drop]; simpa using hu)
      | succ k => simp at hu')
    injection hvv with hvv; subst hvv
    exact fin u hr huc

theorem does_load_eptr (hC : C.Ok) (h : Rel C.P w0 F G U nt ρ st a w) {o : Oper} {T : Nat} {x : Operand} {l : Lay} {r i j : Nat} {row : Row} {s : SV} (ho : o.op = .load T x) (hl : C.lay T = some l) (hx : ev st x = .pv (.one (.eptr r i j))) (hq : look st.rw r = some row)
    (hs : ldElem l (row.el.enc (row.xs.getD i row.el.zero)) j = some s) : Reads C ρ st o a w s := by
  have hv := ev_ok h x
  rw [hx] at hv
  obtain ⟨ad, m, c, e1, hp, hi⟩ := hv.2 row hq
  have hrow := h.mem.row r row hq
  have hel := hrow.1
  have hlen := hel.len (row.xs.getD i row.el.zero)
  have hcell : ∀ k u, ((row.el.enc (row.xs.getD i row.el.zero)).drop j)[k]? = some u → w.cell? ((ad.add (i * row.el.sz + j)).add k) = some u := by
    intro k u hu
    rw [List.getElem?_drop] at hu
    have hlt : j + k < row.el.sz := by rw [← hlen]; exact (List.getElem?_eq_some_iff.1 hu).1
    rw [add_add, Nat.add_assoc]
    refine row_cells hrow e1 _ u ?_
    rw [flat_get hel _ _ _ hi hlt]
    exact hu
  have fin : ∀ v, (loadVar T (ad.add (i * row.el.sz + j))).run C.P w = .ok v w → svOk ρ st v s → Reads C ρ st o a w s := by
    intro v hr hsv
    refine ⟨v, ?_, hsv⟩
    simp only [execOp, ho, Instr.loadAt, Instr.sureAddr, hp, Sem.run_bind, Sem.run_pure, Result.andThen_ok, hr]
  cases l with
  | st sz zs fs =>
    simp only [ldElem] at hs
    split at hs
    · rename_i hle
      injection hs with hs; subst hs
      obtain ⟨v, hr, hvv⟩ := run_loadVar (w := w) (hC.lay T _ hl) (ad.add (i * row.el.sz + j)) (((row.el.enc (row.xs.getD i row.el.zero)).drop j).take sz) (by show _ = sz; rw [List.length_take, List.length_drop]; omega) (fun k u hu => hcell k u (by
        rw [List.getElem?_take] at hu; split at hu
        · exact hu
        · cases hu))
      exact fin v hr ⟨_, hvv, all2_vals _ _ _⟩
    · cases hs
  | _ =>
    simp only [ldElem, Option.map_eq_some_iff] at hs
    obtain ⟨u, hu, rfl⟩ := hs
    obtain ⟨v, hr, hvv⟩ := run_loadVar (w := w) (hC.lay T _ hl) (ad.add (i * row.el.sz + j)) [u] rfl (fun k u' hu' => by
      cases k with
      | zero => simp at hu'; subst hu'; exact hcell 0 u (by rw [List.getElem?_drop]; simpa using hu)
      | succ k => simp at hu')
    injection hvv with hvv; subst hvv
    exact fin u hr rfl

end
end Go.Proofs.Ytjmhffbenbiieaa.Ev
