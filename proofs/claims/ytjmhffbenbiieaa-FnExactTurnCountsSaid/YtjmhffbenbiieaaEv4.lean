/- Part 4: layouts; operations on memory, each as a step from state to state. -/
import Derived.Test.YtjmhffbenbiieaaEv3
set_option linter.unusedVariables false
set_option linter.unusedSimpArgs false
namespace Go.Proofs.Ytjmhffbenbiieaa.Ev
open Go.RowKit

/-! ### 1. What the types are like -/
inductive Lay where
  | sc (z : Value)
  | st (sz : Nat) (zs : List Value) (fs : List (Nat × Nat))
  | sl (e : Nat)
  | str
def LayOk1 (P : Program) (t : Nat) : Lay → Prop
  | .sc z => z.oneCell' = true ∧ ∃ d i, P.underlying t = some d ∧ (∀ fs, d ≠ .struct fs) ∧ (∀ n e, d ≠ .array n e) ∧ P.info? t = some i ∧ i.size = 1 ∧ i.zero = some z
  | .st sz zs fs => ∃ fa i, P.underlying t = some (.struct fa) ∧ P.info? t = some i ∧ i.size = sz ∧ i.zero = some (.agg zs.toArray) ∧ zs.length = sz ∧ fa.size = fs.length ∧
      ∀ (k : Nat) (p : Nat × Nat), fs[k]? = some p → ∃ (f : Field) (j : TypeInfo), fa[k]? = some f ∧ f.offset = p.1 ∧ f.type = p.2 ∧ P.info? f.type = some j ∧ j.size ≠ 0
  | .sl e => P.underlying t = some (.slice e) ∧ ∃ i, P.info? t = some i ∧ i.size = 1 ∧ i.zero = some (.slice none 0 0)
  | .str => P.underlying t = some .string ∧ ∃ i, P.info? t = some i ∧ i.size = 1 ∧ i.zero = some (.string ⟨#[]⟩)
/-- A context: the program, its layouts, its rows' elements, its integer types, its Boolean types; which arguments a function writes in place; which functions only read the objects that they are handed; what lies in the blocks below gn. -/
structure Cx where
  P : Program
  lay : Nat → Option Lay
  el : Nat → Option El
  ik : Nat → Option IntKind
  bt : Nat → Bool
  mu : Nat → List Nat
  rd : Nat → Bool
  gn : Nat
  laid : World → Prop
structure Cx.Ok (C : Cx) : Prop where
  lay : ∀ t l, C.lay t = some l → LayOk1 C.P t l
  el : ∀ t e, C.el t = some e → e.Ok C.P ∧ e.T = t
  ik : ∀ t k, C.ik t = some k → C.P.underlying t = some (.int k)
  bt : ∀ t, C.bt t = true → C.P.underlying t = some .bool
  stab : ∀ w w' : World, C.laid w → (∀ k, k < C.gn → w'.heap[k]? = w.heap[k]?) → C.laid w'
  gle : ∀ w, C.laid w → C.gn ≤ w.heap.size
/-- The world is laid, and what may be written lies elsewhere. -/
def GOk (C : Cx) (w : World) (F : Nat → Prop) : Prop := C.laid w ∧ ∀ b, F b → C.gn ≤ b
theorem GOk.frm {C : Cx} (hC : C.Ok) {w0 w : World} {F : Nat → Prop} (h : GOk C w0 F) (hf : Frm w0 F w) : C.laid w := by
  refine hC.stab w0 w h.1 fun k hk => hf.block k (Nat.lt_of_lt_of_le hk (hC.gle w0 h.1)) fun hF => ?_
  have := h.2 k hF; omega
theorem GOk.okb {C : Cx} (hC : C.Ok) {w0 : World} {F : Nat → Prop} (h : GOk C w0 F) {b : Nat} (hb : okb w0 F b) : C.gn ≤ b := by
  rcases hb with hb | hb
  · exact Nat.le_trans (hC.gle w0 h.1) hb
  · exact h.2 b hb

/-- Is it a scalar of one cell? its zero. -/
def Lay.one? : Lay → Option Value
  | .sc z => some z
  | .st .. => none
  | .sl _ => some (.slice none 0 0)
  | .str => some (.string ⟨#[]⟩)
theorem one?_info {P : Program} {t : Nat} {l : Lay} {z : Value} (h : LayOk1 P t l) (hz : l.one? = some z) : z.oneCell' = true ∧ ∃ d i, P.underlying t = some d ∧ (∀ fs, d ≠ .struct fs) ∧ (∀ n e, d ≠ .array n e) ∧ P.info? t = some i ∧ i.size = 1 ∧ i.zero = some z := by
  cases l with
  | sc z' => injection hz with hz; subst hz; exact h
  | st _ _ _ => cases hz
  | sl e => injection hz with hz; subst hz; obtain ⟨h1, i, h2, h3, h4⟩ := h; exact ⟨rfl, _, i, h1, by simp, by simp, h2, h3, h4⟩
  | str => injection hz with hz; subst hz; obtain ⟨h1, i, h2, h3, h4⟩ := h; exact ⟨rfl, _, i, h1, by simp, by simp, h2, h3, h4⟩
def Lay.zero : Lay → List Value
  | .st _ zs _ => zs
  | .sc z => [z]
  | .sl _ => [.slice none 0 0]
  | .str => [.string ⟨#[]⟩]
theorem cells_one {v : Value} (h : v.oneCell' = true) : v.cells = #[v] := by cases v <;> first | rfl | simp [Value.oneCell'] at h
theorem lay_zero {P : Program} {t : Nat} {l : Lay} (h : LayOk1 P t l) (w : World) : ∃ z, (zeroValue t).run P w = .ok z w ∧ z.cells = l.zero.toArray := by
  cases l with
  | st sz zs fs =>
    obtain ⟨fa, i, h1, h2, h3, h4, h5, _⟩ := h
    exact ⟨.agg zs.toArray, by simp [zeroValue, typeInfo, h2, h4], rfl⟩
  | sc z =>
    obtain ⟨h0, d, i, h1, _, _, h2, h3, h4⟩ := h
    exact ⟨z, by simp [zeroValue, typeInfo, h2, h4], by rw [cells_one h0]; rfl⟩
  | sl e => obtain ⟨h1, i, h2, h3, h4⟩ := h; exact ⟨.slice none 0 0, by simp [zeroValue, typeInfo, h2, h4], rfl⟩
  | str => obtain ⟨h1, i, h2, h3, h4⟩ := h; exact ⟨.string ⟨#[]⟩, by simp [zeroValue, typeInfo, h2, h4], rfl⟩

/-! ### 2. Steps: a frame's slot gets a value -/
def St.putD (st : St) (d : Option Nat) (s : SV) : St :=
  match d with
  | some t => st.put t s
  | none => st
def dOk (nt : Nat) : Option Nat → Bool
  | some t => decide (t < nt)
  | none => true

section
variable {C : Cx} {w0 : World} {F : Nat → Prop} {G : List Nat} {U : List Value} {nt : Nat} {ρ : Rho} {st : St} {a : Act} {w : World}

theorem put_sc {t : Nat} {s : SV} {v : Value} {c : SC} (h : scOk ρ st v c) : scOk ρ (st.put t s) v c := h.congr (Nat.le_refl _) (fun _ _ => ⟨rfl, rfl⟩) (fun _ _ => ⟨rfl, rfl⟩)
theorem putD_sc {t : Option Nat} {s : SV} {v : Value} {c : SC} (h : scOk ρ st v c) : scOk ρ (st.putD t s) v c := by
  cases t with
  | none => exact h
  | some t => exact put_sc h
theorem Mem.put {P : Program} (h : Mem P w0 F ρ st w) (t : Nat) (s : SV) : Mem P w0 F ρ (st.put t s) w :=
  ⟨h.frm, h.rlt, h.olt, h.row, fun o ob e => (h.ob o ob e).congr fun v c => put_sc, h.rr, h.oo, h.ro⟩

/-- The state's memory has turned with the world; the slots say what they said; then a slot is written. -/
theorem Rel.next {P : Program} (h : Rel P w0 F G U nt ρ st a w) {ρ' : Rho} {st' : St} {w' : World} (hm : Mem P w0 F ρ' st' w') (hs : st'.sl = st.sl) (hi : ∀ v c, scOk ρ st v c → scOk ρ' st' v c)
    (hp : st'.po = st.po) (hp' : st.po.map ρ'.os = st.po.map ρ.os) (hq : st'.pr = st.pr) (hq' : st.pr.map ρ'.rs = st.pr.map ρ.rs)
    (d : Option Nat) (v : Value) (s : SV) (hv : svOk ρ' st' v s) (hd : dOk nt d = true) : Rel P w0 F G U nt ρ' (st'.putD d s) (a.put d v) w' := by
  cases d with
  | none =>
    exact ⟨hm, h.size, h.defers, fun t sv e => (h.slots t sv (by rw [← hs]; exact e)).congr hi, by show st'.po.map _ = _; rw [hp, hp']; exact h.pins, by show st'.pr.map _ = _; rw [hq, hq']; exact h.pinr⟩
  | some d =>
    have hlt : d < a.tmps.size := by rw [h.size]; simpa [dOk] using hd
    refine ⟨hm.put d s, by simp [Act.put, h.size], h.defers, fun t sv e => ?_, by show st'.po.map _ = _; rw [hp, hp']; exact h.pins, by show st'.pr.map _ = _; rw [hq, hq']; exact h.pinr⟩
    simp only [St.putD, St.put, look] at e
    split at e
    · rename_i ht; subst ht
      injection e with e; subst e
      have : (a.put (some d) v).tmps.getD d undef = v := by simp [Act.put, Array.getD_eq_getD_getElem?, hlt]
      rw [this]
      exact hv.congr fun v c => put_sc
    · rename_i ht
      have : (a.put (some d) v).tmps.getD t undef = a.tmps.getD t undef := by
        simp only [Act.put, Array.getD_eq_getD_getElem?]
        rw [Array.getElem?_setIfInBounds_ne ht]
      rw [this]
      exact ((h.slots t sv (by rw [← hs]; exact e)).congr hi).congr fun v c => put_sc
/-- Nothing but a slot is written. -/
theorem Rel.slot {P : Program} (h : Rel P w0 F G U nt ρ st a w) (d : Option Nat) (v : Value) (s : SV) (hv : svOk ρ st v s) (hd : dOk nt d = true) : Rel P w0 F G U nt ρ (st.putD d s) (a.put d v) w :=
  h.next h.mem rfl (fun _ _ h => h) rfl rfl rfl rfl d v s hv hd

/-- The machine does operation o and comes to K. -/
def Does (C : Cx) (o : Oper) (a : Act) (w : World) (K : Act → World → Prop) : Prop :=
  ∃ v w', ((execOp a.eval o).run C.P w = .ok (.value v) w' ∨ ((execOp a.eval o).run C.P w = .ok .skip w' ∧ v = undef)) ∧ K (a.put o.dst v) w'
/-- The operation only reads: it comes to a value as s says, the world stays. -/
def Reads (C : Cx) (ρ : Rho) (st : St) (o : Oper) (a : Act) (w : World) (s : SV) : Prop := ∃ v, (execOp a.eval o).run C.P w = .ok (.value v) w ∧ svOk ρ st v s
def RR (C : Cx) (w0 : World) (F : Nat → Prop) (G : List Nat) (U : List Value) (nt : Nat) (st : St) (a : Act) (w : World) : Prop := R C.P w0 F G U nt st a w

theorem Reads.does {o : Oper} {s : SV} (hr : Reads C ρ st o a w s) (h : Rel C.P w0 F G U nt ρ st a w) (hd : dOk nt o.dst = true) : Does C o a w (RR C w0 F G U nt (st.putD o.dst s)) := by
  obtain ⟨v, h1, h2⟩ := hr
  exact ⟨v, w, .inl h1, ρ, h.slot o.dst v s h2 hd⟩

theorem all2_live_row (h : Mem C.P w0 F ρ st w) : ∀ r row, look st.rw r = some row → ∀ b, rblk row (ρ.rs r) = some b → b < w.heap.size := fun r row e => (h.row r row e).lt
theorem all2_live_ob (h : Mem C.P w0 F ρ st w) : ∀ o ob, look st.ob o = some ob → ρ.os o < w.heap.size := by
  intro o ob e
  obtain ⟨_, vs, h1, _⟩ := h.ob o ob e
  exact lt_of_some h1

theorem map_obj (h : Mem C.P w0 F ρ st w) (hp : ∀ o ∈ st.po, o < st.nx) (g : Nat) : st.po.map (ρ.obj st.nx g).os = st.po.map ρ.os := by
  apply List.map_congr_left
  intro o ho
  have : ¬ o = st.nx := by have := hp o ho; omega
  simp [Rho.obj, this]
theorem map_row (hp : ∀ o ∈ st.pr, o < st.nx) (u : Value) : st.pr.map (ρ.row st.nx u).rs = st.pr.map ρ.rs := by
  apply List.map_congr_left
  intro o ho
  have : ¬ o = st.nx := by have := hp o ho; omega
  simp [Rho.row, this]

/-- A new object: its block holds what the cells say. -/
theorem Rel.newOb (h : Rel C.P w0 F G U nt ρ st a w) (hp : ∀ o ∈ st.po, o < st.nx) {T : Nat} {cs : List SC} {vs : List Value} (hvs : All2 (scOk ρ st) vs cs) (d : Option Nat) (hd : dOk nt d = true) :
    ∃ ρ', Rel C.P w0 F G U nt ρ' ((st.newOb ⟨T, cs, true⟩).putD d (.pv (.one (.ptr st.nx 0)))) (a.put d (.pointer (some ⟨w.heap.size, 0, none⟩))) (w.alloc (.cells vs.toArray T)) := by
  refine ⟨ρ.obj st.nx w.heap.size, h.next (Mem.newOb (h.mem.alloc _) ⟨fun _ => .inl h.mem.frm.size, vs, heap_alloc_new w _, hvs⟩ ?_ ?_) rfl (fun v c => newOb_sc) rfl (map_obj h.mem hp _) rfl rfl d _ _ ?_ hd⟩
  · intro r row e hb
    have := all2_live_row h.mem r row e _ hb
    omega
  · intro o ob e hb
    have := all2_live_ob h.mem o ob e
    omega
  · refine ⟨by simp [St.newOb], fun ob _ => ?_⟩
    simp [Rho.obj]

theorem does_alloc (hC : C.Ok) (h : Rel C.P w0 F G U nt ρ st a w) (hp : ∀ o ∈ st.po, o < st.nx) {o : Oper} {T : Nat} {l : Lay} (ho : o.op = .alloc T) (hl : C.lay T = some l) (hd : dOk nt o.dst = true) :
    Does C o a w (RR C w0 F G U nt ((st.newOb ⟨T, l.zero.map .val, true⟩).putD o.dst (.pv (.one (.ptr st.nx 0))))) := by
  obtain ⟨z, hz, hc⟩ := lay_zero (hC.lay T l hl) w
  obtain ⟨ρ', hr⟩ := h.newOb hp (T := T) (all2_vals ρ st l.zero) o.dst hd
  refine ⟨_, _, .inl ?_, ρ', hr⟩
  simp only [execOp, ho, Instr.alloc, Sem.run_bind, hz, Result.andThen_ok, newVar, newRow, run_newObj, Sem.run_pure, hc]
  rfl

/-- Is the scalar known, and of one cell? -/
def St.live (st : St) : SC → Bool
  | .val v => v.oneCell'
  | .ref r _ => (look st.rw r).isSome
  | .ptr o _ => (look st.ob o).isSome
  | .eptr r _ _ => (look st.rw r).isSome
  | .clo _ os => os.all fun o => (look st.ob o).isSome
  | .undef => false
theorem live_one {v : Value} {c : SC} (h : scOk ρ st v c) (hl : st.live c = true) : v.oneCell' = true := by
  cases c with
  | val x => rw [show v = x from h]; exact hl
  | ref r n =>
    simp only [St.live, Option.isSome_iff_exists] at hl
    obtain ⟨row, hr⟩ := hl
    obtain ⟨A, m, c, _, rfl, _⟩ := h.2 row hr
    rfl
  | ptr o off =>
    simp only [St.live, Option.isSome_iff_exists] at hl
    obtain ⟨ob, hr⟩ := hl
    rw [h.2 ob hr]; rfl
  | eptr r i j =>
    simp only [St.live, Option.isSome_iff_exists] at hl
    obtain ⟨row, hr⟩ := hl
    obtain ⟨A, m, c, _, rfl, _⟩ := h.2 row hr
    rfl
  | clo f os =>
    rw [h.2 fun o hm => (List.all_eq_true.1 hl) o hm]; rfl
  | undef => simp [St.live] at hl

/-- The cells of a value. -/
def St.cells (st : St) : SV → Option (List SC)
  | .pv (.one c) => if st.live c = true then some [c] else none
  | .pv (.agg cs) => some cs
  | .tup _ => none
theorem cells_ok {v : Value} {s : SV} {cs : List SC} (h : svOk ρ st v s) (hs : st.cells s = some cs) : All2 (scOk ρ st) v.cells.toList cs := by
  unfold St.cells at hs
  split at hs
  · rename_i c
    split at hs
    · rename_i hl
      injection hs with hs; subst hs
      rw [cells_one (live_one h hl)]
      exact .cons h .nil
    · cases hs
  · injection hs with hs; subst hs
    obtain ⟨vs, rfl, hv⟩ := h
    simpa [Value.cells] using hv
  · cases hs

theorem does_box (h : Rel C.P w0 F G U nt ρ st a w) (hp : ∀ o ∈ st.po, o < st.nx) {o : Oper} {T : Nat} {x : Operand} {cs : List SC} (ho : o.op = .box T x) (hx : st.cells (ev st x) = some cs) (hd : dOk nt o.dst = true) :
    Does C o a w (RR C w0 F G U nt ((st.newOb ⟨T, cs, true⟩).putD o.dst (.pv (.one (.ptr st.nx 0))))) := by
  have hv := cells_ok (ev_ok h x) hx
  obtain ⟨ρ', hr⟩ := h.newOb hp (T := T) hv o.dst hd
  refine ⟨_, _, .inl ?_, ρ', hr⟩
  simp only [execOp, ho, Instr.box, Sem.run_bind, Result.andThen_ok, newVar, newRow, run_newObj, Sem.run_pure]
  rfl

end
end Go.Proofs.Ytjmhffbenbiieaa.Ev
