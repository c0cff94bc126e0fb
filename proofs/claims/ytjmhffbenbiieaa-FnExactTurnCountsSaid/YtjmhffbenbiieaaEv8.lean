/- Part 8: cuts of strings and slices; structs and slices that are built; append. -/
import Derived.Test.YtjmhffbenbiieaaEv7
set_option linter.unusedVariables false
set_option linter.unusedSimpArgs false
namespace Go.Proofs.Ytjmhffbenbiieaa.Ev
open Go.RowKit

section
variable {C : Cx} {w0 : World} {F : Nat → Prop} {G : List Nat} {U : List Value} {nt : Nat} {ρ : Rho} {st : St} {a : Act} {w : World}

/-! ### 1. Cuts -/
def SV.int? : SV → Option Int
  | .pv (.one (.val (.int _ n))) => some n
  | _ => none
theorem int?_ok {v : Value} {s : SV} {n : Int} (h : svOk ρ st v s) (hs : s.int? = some n) : ∃ k, v = .int k n := by
  unfold SV.int? at hs
  split at hs
  · rename_i k m; injection hs with hs; subst hs; exact ⟨k, h⟩
  · cases hs
def bnd (st : St) (x : Option Operand) (d : Int) : Option Int :=
  match x with
  | none => some d
  | some y => (ev st y).int?
theorem run_bnds (h : Rel C.P w0 F G U nt ρ st a w) {isSl : Bool} {len cap : Nat} {lo hi : Option Operand} {l u : Int} (hl : bnd st lo 0 = some l) (hu : bnd st hi len = some u) (h0 : 0 ≤ l) (h1 : l ≤ u) (h2 : u ≤ cap) :
    (Instr.sliceBounds isSl len cap (lo.map a.eval) (hi.map a.eval) none).run C.P w = .ok (l.toNat, u.toNat, cap) w := by
  have hub : 0 ≤ u := by omega
  have hl' : l ≤ (u.toNat : Int) := by omega
  cases lo with
  | none =>
    injection hl with hl; subst hl
    cases hi with
    | none =>
      injection hu with hu; subst hu
      simp [Instr.sliceBounds]
    | some y =>
      obtain ⟨k, e⟩ := int?_ok (ev_ok h y) hu
      simp [Instr.sliceBounds, e, run_sliceBound (P := C.P) w k u cap _ hub h2]
  | some x =>
    obtain ⟨k, e⟩ := int?_ok (ev_ok h x) hl
    cases hi with
    | none =>
      injection hu with hu; subst hu
      simp only [Int.toNat_natCast] at hl'
      simp [Instr.sliceBounds, e, run_sliceBound (P := C.P) w k l len _ h0 hl']
    | some y =>
      obtain ⟨k', e'⟩ := int?_ok (ev_ok h y) hu
      simp [Instr.sliceBounds, e, e', run_sliceBound (P := C.P) w k' u cap _ hub h2, run_sliceBound (P := C.P) w k l u.toNat _ h0 hl']

theorem does_slice_str (hC : C.Ok) (h : Rel C.P w0 F G U nt ρ st a w) {o : Oper} {T : Nat} {x : Operand} {lo hi : Option Operand} {s : ByteArray} {l u : Int} (ho : o.op = .slice T x lo hi none) (hT : C.lay T = some .str) (hx : (ev st x).val? = some (.string s)) (hl : bnd st lo 0 = some l) (hu : bnd st hi s.size = some u)
    (h0 : 0 ≤ l) (h1 : l ≤ u) (h2 : u ≤ s.size) : Reads C ρ st o a w (.pv (.one (.val (.string (s.extract l.toNat u.toNat))))) := by
  have e1 := val?_ok (ev_ok h x) hx
  have hty := (hC.lay T _ hT).1
  refine ⟨_, ?_, rfl⟩
  have hb := run_bnds h (isSl := false) (len := s.size) (cap := s.size) hl hu h0 h1 h2
  simp only [execOp, ho, e1, Option.map_none]
  simp [Instr.sliceAt, Instr.slice, run_underlying hty, hb]

theorem does_slice_pre (hC : C.Ok) (h : Rel C.P w0 F G U nt ρ st a w) {o : Oper} {T : Nat} {x : Operand} {hi : Option Operand} {r n : Nat} {row : Row} {u : Int} (ho : o.op = .slice T x none hi none) (hx : ev st x = .pv (.one (.ref r n))) (hq : look st.rw r = some row) (hT : C.lay T = some (.sl row.el.T))
    (hu : bnd st hi n = some u) (h0 : 0 ≤ u) (h2 : u ≤ n) : Reads C ρ st o a w (.pv (.one (.ref r u.toNat))) := by
  have hv := ev_ok h x
  rw [hx] at hv
  obtain ⟨A, m, c, e1, hp, hn⟩ := hv.2 row hq
  have hty := (hC.lay T _ hT).1
  have hrow := h.mem.row r row hq
  obtain ⟨it, z, hi1, hi2, _⟩ := hrow.1.info
  have hcap : row.xs.length ≤ c := by
    have := hrow.2
    split at this
    · rcases this.1.2 with ⟨e2, e3⟩ | ⟨g, cap, cur, e2, _, _, h5, _⟩
      · omega
      · rw [e1] at e2; injection e2 with _ _ e2; omega
    · obtain ⟨A', c', e2, h5, _⟩ := this
      rw [e1] at e2; injection e2 with _ _ e2; omega
  have hb := run_bnds h (isSl := true) (lo := none) (len := n) (cap := c) (l := 0) rfl hu (by omega) h0 (by omega)
  refine ⟨.slice A u.toNat c, ?_, ⟨hv.1, fun row' hr' => ?_⟩⟩
  · simp only [execOp, ho, hp, Option.map_none]
    simp only [Option.map_none] at hb
    simp only [Instr.sliceAt, Instr.slice, Sem.run_bind, run_underlying hty, Result.andThen_ok, hb, sizeOf, typeInfo, run_program, hi1, Sem.run_pure]
    simp
    intro _
    cases A <;> simp [Addr.add]
  · rw [hq] at hr'; injection hr' with hr'; subst hr'
    exact ⟨A, m, c, e1, rfl, by omega⟩

/-- A row of the call's own is read from now on, and written no more. -/
def St.shutR (st : St) (r : Nat) : St :=
  match look st.rw r with
  | some row => { st with rw := (r, { row with own := false }) :: st.rw }
  | none => st
theorem own_rd {w : World} {el : El} {v : Value} {xs : List el.α} (h : w.ownsRow 0 el.T el.sz v xs.length (el.flat xs)) : rdRow w el v xs := by
  rcases h.2 with ⟨rfl, h0⟩ | ⟨g, cap, cur, rfl, _, hh, h1, h2, _⟩
  · exact ⟨none, 0, by rw [h0], by omega, by simp [maxLen], fun hp => by omega⟩
  · exact ⟨_, cap, rfl, h1, h2, fun _ => ⟨_, rfl, fun k u hu => h.cells (g := g) rfl k u hu⟩⟩
theorem seal_look {r : Nat} {row : Row} (hr : look st.rw r = some row) : ∀ r' row', look (st.shutR r).rw r' = some row' → (r' = r ∧ row' = { row with own := false }) ∨ (r' ≠ r ∧ look st.rw r' = some row') := by
  intro r' row' e
  simp only [St.shutR, hr, look] at e
  split at e
  · rename_i h1; injection e with e; exact .inl ⟨h1.symm, e.symm⟩
  · rename_i h1; exact .inr ⟨fun e2 => h1 e2.symm, e⟩
theorem seal_sc {r : Nat} {row : Row} (hr : look st.rw r = some row) {v : Value} {c : SC} (h : scOk ρ st v c) : scOk ρ (st.shutR r) v c := by
  have hnx : (st.shutR r).nx = st.nx := by simp [St.shutR, hr]
  have hob : (st.shutR r).ob = st.ob := by simp [St.shutR, hr]
  cases c with
  | ref r' n =>
    refine ⟨by rw [hnx]; exact h.1, fun row2 e => ?_⟩
    rcases seal_look hr r' row2 e with ⟨rfl, rfl⟩ | ⟨_, e⟩
    · exact h.2 row hr
    · exact h.2 row2 e
  | eptr r' i j =>
    refine ⟨by rw [hnx]; exact h.1, fun row2 e => ?_⟩
    rcases seal_look hr r' row2 e with ⟨rfl, rfl⟩ | ⟨_, e⟩
    · exact h.2 row hr
    · exact h.2 row2 e
  | ptr q off => exact ⟨by rw [hnx]; exact h.1, fun ob e => h.2 ob (by rw [hob] at e; exact e)⟩
  | clo f os => exact ⟨by rw [hnx]; exact h.1, fun e => h.2 (by rw [hob] at e; exact e)⟩
  | _ => exact h
theorem rblk_seal (row : Row) (v : Value) {b : Nat} (h : rblk { row with own := false } v = some b) : rblk row v = some b := by
  unfold rblk at *
  split at h
  · cases h
  · rename_i hn
    rw [if_neg]
    · exact h
    · exact fun e => hn ⟨rfl, e.2⟩
theorem Mem.shutR {P : Program} (h : Mem P w0 F ρ st w) {r : Nat} {row : Row} (hr : look st.rw r = some row) : Mem P w0 F ρ (st.shutR r) w := by
  have hnx : (st.shutR r).nx = st.nx := by simp [St.shutR, hr]
  have hob : (st.shutR r).ob = st.ob := by simp [St.shutR, hr]
  have key := seal_look hr
  have ex : ∀ r' row', look (st.shutR r).rw r' = some row' → ∃ q, look st.rw r' = some q ∧ (row'.own = true → q.own = true) ∧ ∀ b, rblk row' (ρ.rs r') = some b → rblk q (ρ.rs r') = some b := by
    intro r' row' e
    rcases key r' row' e with ⟨rfl, rfl⟩ | ⟨_, e⟩
    · exact ⟨row, hr, (fun e => by cases e), fun b => rblk_seal row _⟩
    · exact ⟨row', e, id, fun _ => id⟩
  refine ⟨h.frm, fun r' row' e => ?_, fun o ob e => ?_, fun r' row' e => ?_, fun o ob e => ?_, fun r1 r2 row1 row2 e1 e2 o1 hne b hb => ?_, fun o o' ob ob' e e' => ?_, fun r1 o row1 ob e1 e2 ow hb => ?_⟩
  · obtain ⟨q, hq, _⟩ := ex r' row' e; rw [hnx]; exact h.rlt r' q hq
  · rw [hnx]; exact h.olt o ob (by rw [← hob]; exact e)
  · rcases key r' row' e with ⟨rfl, rfl⟩ | ⟨_, e⟩
    · obtain ⟨hel, hro⟩ := h.row r' row hr
      refine ⟨hel, ?_⟩
      rw [if_neg (by simp)]
      split at hro
      · exact own_rd hro.1
      · exact hro
    · exact h.row r' row' e
  · exact (h.ob o ob (by rw [← hob]; exact e)).congr fun v c => seal_sc hr
  · obtain ⟨q1, h1, h1', h1''⟩ := ex r1 row1 e1
    obtain ⟨q2, h2, h2', h2''⟩ := ex r2 row2 e2
    intro hb2
    exact h.rr r1 r2 q1 q2 h1 h2 (o1.imp h1' h2') hne b (h1'' b hb) (h2'' b hb2)
  · rw [hob] at e e'; exact h.oo o o' ob ob' e e'
  · obtain ⟨q1, h1, h1', h1''⟩ := ex r1 row1 e1
    exact h.ro r1 o q1 ob h1 (by rw [← hob]; exact e2) (ow.imp h1' id) (h1'' _ hb)

theorem drop_flat {P : Program} {e : El} (h : e.Ok P) (xs : List e.α) (i : Nat) : e.flat (xs.drop i) = (e.flat xs).drop (i * e.sz) := by
  induction xs generalizing i with
  | nil => simp [El.flat]
  | cons x xs ih =>
    cases i with
    | zero => simp
    | succ i =>
      have hc : e.flat (x :: xs) = e.enc x ++ e.flat xs := rfl
      have hd : (e.enc x).drop ((i + 1) * e.sz) = [] := List.drop_eq_nil_of_le (by rw [h.len, Nat.add_mul, Nat.one_mul]; omega)
      rw [List.drop_succ_cons, ih, hc, List.drop_append, h.len, hd, List.nil_append]
      congr 1
      rw [Nat.add_mul, Nat.one_mul]; omega
theorem take_flat {P : Program} {e : El} (h : e.Ok P) (xs : List e.α) (i : Nat) : e.flat (xs.take i) = (e.flat xs).take (i * e.sz) := by
  induction xs generalizing i with
  | nil => simp [El.flat]
  | cons x xs ih =>
    cases i with
    | zero => simp [El.flat]
    | succ i =>
      have hc : ∀ x xs, e.flat (x :: xs) = e.enc x ++ e.flat xs := fun _ _ => rfl
      have hd : (e.enc x).take ((i + 1) * e.sz) = e.enc x := List.take_of_length_le (by rw [h.len, Nat.add_mul, Nat.one_mul]; omega)
      rw [List.take_succ_cons, hc, hc, ih, List.take_append, h.len, hd]
      congr 2
      rw [Nat.add_mul, Nat.one_mul]; omega

/-- A later part of a slice: a row of its own name, which is read. -/
theorem does_slice_view (hC : C.Ok) (h : Rel C.P w0 F G U nt ρ st a w) (hpr : ∀ o ∈ st.pr, o < st.nx) {o : Oper} {T : Nat} {x : Operand} {lo hi : Option Operand} {r n : Nat} {row : Row} {l u : Int} (ho : o.op = .slice T x lo hi none) (hx : ev st x = .pv (.one (.ref r n))) (hq : look st.rw r = some row) (hT : C.lay T = some (.sl row.el.T))
    (hl : bnd st lo 0 = some l) (hu : bnd st hi n = some u) (h0 : 0 ≤ l) (h1 : l ≤ u) (h2 : u ≤ n) (hd : dOk nt o.dst = true) :
    Does C o a w (RR C w0 F G U nt (((st.shutR r).newRow ⟨false, row.el, (row.xs.take u.toNat).drop l.toNat⟩).putD o.dst (.pv (.one (.ref st.nx (u.toNat - l.toNat)))))) := by
  have hv := ev_ok h x
  rw [hx] at hv
  obtain ⟨A, m, c, e1, hp, hn⟩ := hv.2 row hq
  have hty := (hC.lay T _ hT).1
  have hrow := h.mem.row r row hq
  have hel := hrow.1
  obtain ⟨it, z, hi1, hi2, _⟩ := hel.info
  have hcap : row.xs.length ≤ c ∧ c ≤ maxLen := by
    have := hrow.2
    split at this
    · rcases this.1.2 with ⟨e2, e3⟩ | ⟨g, cap, cur, e2, _, _, h5, h6, _⟩
      · rw [e1] at e2; injection e2 with _ _ e2; exact ⟨by omega, by simp [maxLen, e2]⟩
      · rw [e1] at e2; injection e2 with _ _ e2; exact ⟨by omega, by omega⟩
    · obtain ⟨A', c', e2, h5, h6, _⟩ := this
      rw [e1] at e2; injection e2 with _ _ e2; exact ⟨by omega, by omega⟩
  have hb := run_bnds h (isSl := true) (len := n) (cap := c) hl hu h0 h1 (by omega)
  have hms := h.mem.shutR hq
  have hsl : look (st.shutR r).rw r = some { row with own := false } := by simp [St.shutR, hq, look]
  have hnx : (st.shutR r).nx = st.nx := by simp [St.shutR, hq]
  have hlen : ((row.xs.take u.toNat).drop l.toNat).length = u.toNat - l.toNat := by rw [List.length_drop, List.length_take]; omega
  let v : Value := .slice (if c = l.toNat then A else A.map (·.add (l.toNat * row.el.sz))) (u.toNat - l.toNat) (c - l.toNat)
  have hown : v.ownBlock = (ρ.rs r).ownBlock := by
    rw [e1]
    simp only [v]
    cases A with
    | none => split <;> rfl
    | some ad => split <;> simp [Value.ownBlock, add_block]
  have hrd : rdRow w row.el v ((row.xs.take u.toNat).drop l.toNat) := by
    refine ⟨_, c - l.toNat, by rw [hlen], by rw [hlen]; omega, by omega, fun hpos => ?_⟩
    rw [hlen] at hpos
    obtain ⟨A', c', e2, _, _, h3⟩ : rdRow w row.el (ρ.rs r) row.xs := by
      have := hrow.2
      split at this
      · exact own_rd this.1
      · exact this
    rw [e1] at e2; injection e2 with e2 _ _
    obtain ⟨ad, e3, hc⟩ := h3 (by omega)
    subst e3; subst e2
    rw [if_neg (by omega)]
    refine ⟨_, rfl, fun k u' hu' => ?_⟩
    rw [add_add]
    refine hc _ u' ?_
    rw [drop_flat hel, take_flat hel, List.getElem?_drop, List.getElem?_take] at hu'
    split at hu'
    · exact hu'
    · cases hu'
  have hm2 := hms.newRow (row := ⟨false, row.el, (row.xs.take u.toNat).drop l.toNat⟩) (u := v) ⟨hel, by rw [if_neg (by simp)]; exact hrd⟩ (by
    intro r' row' er' hoo b hb1
    have hb2 : v.ownBlock = some b := by
      unfold rblk at hb1; split at hb1
      · cases hb1
      · exact hb1
    have hne : r' ≠ r := by
      rintro rfl
      rw [hsl] at er'; injection er' with er'; subst er'
      rcases hoo with h | h <;> cases h
    rw [hown] at hb2
    have hpos : row.xs.length ≠ 0 := by
      intro h0'
      unfold rblk at hb1
      have hx0 : row.xs = [] := List.eq_nil_of_length_eq_zero h0'
      rw [if_pos ⟨rfl, by simp [hx0]⟩] at hb1
      cases hb1
    exact hms.rr r r' _ row' hsl er' (.inr (by rcases hoo with h | h; · cases h
                                               · exact h)) (fun e => hne e.symm) b (by unfold rblk; rw [if_neg (fun e => hpos e.2)]; exact hb2)) (by
    intro o' ob' eo' hoo hb1
    have hb2 : v.ownBlock = some (ρ.os o') := by
      unfold rblk at hb1; split at hb1
      · cases hb1
      · exact hb1
    rw [hown] at hb2
    have hpos : row.xs.length ≠ 0 := by
      intro h0'
      unfold rblk at hb1
      have hx0 : row.xs = [] := List.eq_nil_of_length_eq_zero h0'
      rw [if_pos ⟨rfl, by simp [hx0]⟩] at hb1
      cases hb1
    exact hms.ro r o' _ ob' hsl eo' hoo (by unfold rblk; rw [if_neg (fun e => hpos e.2)]; exact hb2))
  refine ⟨v, w, .inl ?_, _, h.next hm2 (by simp [St.newRow, St.shutR, hq]) (fun v c hs => newRow_sc (seal_sc hq hs)) (by simp [St.newRow, St.shutR, hq]) rfl (by simp [St.newRow, St.shutR, hq]) ?_ o.dst v _ ?_ hd⟩
  · simp only [execOp, ho, hp, Option.map_none]
    simp only [Instr.sliceAt, Instr.slice, Sem.run_bind, run_underlying hty, Result.andThen_ok, hb, sizeOf, typeInfo, run_program, hi1, Sem.run_pure, hi2]
    rfl
  · rw [hnx]; exact map_row hpr v
  · refine ⟨by simp [St.newRow, hnx], fun row' hr' => ?_⟩
    have : row' = ⟨false, row.el, (row.xs.take u.toNat).drop l.toNat⟩ := by
      simp only [St.newRow, look, hnx, if_true] at hr'
      injection hr' with hr'; exact hr'.symm
    subst this
    rw [hnx]
    exact ⟨_, u.toNat - l.toNat, c - l.toNat, by simp [Rho.row, v], rfl, by rw [hlen]; exact Nat.le_refl _⟩

end
end Go.Proofs.Ytjmhffbenbiieaa.Ev
