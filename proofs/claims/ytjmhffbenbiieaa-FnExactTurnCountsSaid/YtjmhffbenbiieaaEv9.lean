/- Part 9: structs and slices that are built; append. -/
import Derived.Test.YtjmhffbenbiieaaEv8
set_option linter.unusedVariables false
set_option linter.unusedSimpArgs false
namespace Go.Proofs.Ytjmhffbenbiieaa.Ev
open Go.RowKit

/-! ### 1. Filling cells -/
theorem fold_set (off : Nat) : ∀ (l : List Value) (s : Nat) (cs : Array Value), off + s + l.length ≤ cs.size →
    ((l.zipIdx s).foldl (fun (cs : Array Value) (p : Value × Nat) => cs.setIfInBounds (off + p.2) p.1) cs).toList = cs.toList.take (off + s) ++ l ++ cs.toList.drop (off + s + l.length)
  | [], s, cs, h => by simp
  | v :: r, s, cs, h => by
    simp only [List.zipIdx_cons, List.foldl_cons]
    simp only [List.length_cons] at h
    rw [fold_set off r (s + 1) _ (by simp; omega)]
    have := list_seg_step cs.toList (off + s) v r (by rw [Array.length_toList]; omega)
    simp only [Array.toList_setIfInBounds]
    rw [List.length_cons, ← this]
    simp [Nat.add_assoc]
theorem fill_step {place : Nat → Option (Nat × Nat)} {cells : Array Value} {i off size : Nat} {v : Value} {rest : List (Nat × Value)} (hp : place i = some (off, size)) (hs : v.cells.size = size) (hb : off + size ≤ cells.size) :
    Instr.fill place cells ((i, v) :: rest) = Instr.fill place (cells.toList.take off ++ v.cells.toList ++ cells.toList.drop (off + size)).toArray rest := by
  simp only [Instr.fill, hp]
  rw [if_neg (by simp [hs]; omega)]
  congr 1
  apply Array.ext'
  have := fold_set off v.cells.toList 0 cells (by simp [hs]; omega)
  rw [← Array.foldl_toList, Array.toList_zipIdx]
  simp only [Nat.add_zero, Array.length_toList, hs] at this
  exact this

section
variable {C : Cx} {w0 : World} {F : Nat → Prop} {G : List Nat} {U : List Value} {nt : Nat} {ρ : Rho} {st : St} {a : Act} {w : World}

def buildOf (C : Cx) (st : St) (fs : List (Nat × Nat)) : List (Nat × Operand) → List SC → Option (List SC)
  | [], cs => some cs
  | (k, x) :: r, cs =>
    match fs[k]?, st.cells (ev st x) with
    | some p, some ns => match C.lay p.2 with
      | some l => if ns.length = l.cnt ∧ p.1 + ns.length ≤ cs.length then buildOf C st fs r (splice cs p.1 ns) else none
      | none => none
    | _, _ => none

theorem run_places (hC : C.Ok) {fs : List (Nat × Nat)} : ∀ (fa : List Field), (∀ f ∈ fa, ∃ j, C.P.info? f.type = some j) → ∃ ps : List (Nat × Nat), (fa.mapM (m := Sem) fun f => do pure (f.offset, ← sizeOf f.type)).run C.P w = .ok ps w ∧ ps.length = fa.length ∧ ∀ (k : Nat) (f : Field) (j : TypeInfo), fa[k]? = some f → C.P.info? f.type = some j → ps[k]? = some (f.offset, j.size)
  | [], _ => ⟨[], rfl, rfl, by simp⟩
  | f :: r, hf => by
    obtain ⟨j, hj⟩ := hf f (by simp)
    obtain ⟨ps, h1, h2, h3⟩ := run_places hC (fs := fs) r fun g hg => hf g (by simp [hg])
    refine ⟨(f.offset, j.size) :: ps, ?_, by simp [h2], fun k g i hk hi => ?_⟩
    · simp [List.mapM_cons, sizeOf, typeInfo, hj] at h1 ⊢
      rw [h1]; rfl
    · cases k with
      | zero => simp at hk; subst hk; rw [hj] at hi; injection hi with hi; subst hi; rfl
      | succ k => simpa using h3 k g i (by simpa using hk) hi

theorem fill_build (hC : C.Ok) (h : Rel C.P w0 F G U nt ρ st a w) {fs : List (Nat × Nat)} {place : Nat → Option (Nat × Nat)} (hp : ∀ (k : Nat) (p : Nat × Nat) (l : Lay), fs[k]? = some p → C.lay p.2 = some l → place k = some (p.1, l.cnt)) :
    ∀ (parts : List (Nat × Operand)) (vs : List Value) (cs cs' : List SC), All2 (scOk ρ st) vs cs → buildOf C st fs parts cs = some cs' → ∃ vs', Instr.fill place vs.toArray (parts.map fun p => (p.1, a.eval p.2)) = some vs'.toArray ∧ All2 (scOk ρ st) vs' cs'
  | [], vs, cs, cs', hv, hb => by
    simp only [buildOf] at hb; injection hb with hb; subst hb
    exact ⟨vs, rfl, hv⟩
  | (k, x) :: r, vs, cs, cs', hv, hb => by
    simp only [buildOf] at hb
    split at hb
    · rename_i p ns e1 e2
      split at hb
      · rename_i l e3
        split at hb
        · rename_i e4
          have hns := cells_ok (ev_ok h x) e2
          have hl1 := hns.length
          have hl2 := hv.length
          have hsz : (a.eval x).cells.size = l.cnt := by rw [← Array.length_toList, hl1, e4.1]
          obtain ⟨vs', h1, h2⟩ := fill_build hC h hp r (vs.take p.1 ++ (a.eval x).cells.toList ++ vs.drop (p.1 + l.cnt)) _ cs' (by
            have := ((hv.take p.1).append hns).append (hv.drop (p.1 + ns.length))
            rw [e4.1] at this
            simpa [splice, e4.1] using this) hb
          refine ⟨vs', ?_, h2⟩
          rw [List.map_cons, fill_step (hp k p l e1 e3) hsz (by simp; omega)]
          exact h1
        · cases hb
      · cases hb
    · cases hb

theorem does_build (hC : C.Ok) (h : Rel C.P w0 F G U nt ρ st a w) {o : Oper} {T sz : Nat} {zs : List Value} {fs : List (Nat × Nat)} {parts : Array (Nat × Operand)} {cs : List SC} (ho : o.op = .build T parts) (hT : C.lay T = some (.st sz zs fs)) (hb : buildOf C st fs parts.toList (zs.map .val) = some cs) :
    Reads C ρ st o a w (.pv (.agg cs)) := by
  obtain ⟨fa, i, h1, h2, h3, h4, h5, h5', h6⟩ := hC.lay T _ hT
  have hall : ∀ f ∈ fa.toList, ∃ j, C.P.info? f.type = some j := by
    intro f hf
    obtain ⟨k, hk, rfl⟩ := List.getElem_of_mem hf
    have hk2 : k < fs.length := by rw [← h5']; simpa using hk
    obtain ⟨f', j, e1, _, _, e4, _⟩ := h6 k fs[k] (List.getElem?_eq_getElem hk2)
    have : fa.toList[k] = f' := by
      have e5 : fa.toList[k]? = some f' := by simpa using e1
      rw [List.getElem?_eq_getElem hk] at e5; injection e5
    rw [this]; exact ⟨j, e4⟩
  obtain ⟨ps, hp1, hp2, hp3⟩ := run_places (w := w) hC (fs := fs) fa.toList hall
  have hplace : ∀ (k : Nat) (p : Nat × Nat) (l : Lay), fs[k]? = some p → C.lay p.2 = some l → ps.toArray[k]? = some (p.1, l.cnt) := by
    intro k p l e1 e2
    obtain ⟨f, j, e3, e4, e5, e6, _⟩ := h6 k p e1
    have := hp3 k f j (by simpa using e3) e6
    rw [e4] at this
    have hj : j.size = l.cnt := by
      have := lay_size (hC.lay _ _ e2) w
      rw [← e5] at this
      simp only [sizeOf, typeInfo, Sem.run_bind, run_program, Result.andThen_ok, e6, Sem.run_pure] at this
      injection this
    rw [hj] at this
    simpa using this
  obtain ⟨vs', hf, hv⟩ := fill_build hC h (place := (ps.toArray[·]?)) hplace parts.toList zs (zs.map .val) cs (all2_vals _ _ _) hb
  refine ⟨.agg vs'.toArray, ?_, ⟨vs', rfl, hv⟩⟩
  have hm : (fa.mapM (m := Sem) fun f => do pure (f.offset, ← sizeOf f.type)).run C.P w = .ok ps.toArray w := by
    rw [← Array.toArray_toList (xs := fa), List.mapM_toArray]
    rw [Sem.run_map, hp1]; rfl
  have hz : (zeroValue T).run C.P w = .ok (.agg zs.toArray) w := by simp [zeroValue, typeInfo, h2, h4]
  have hpm : (parts.map fun (i, x) => (i, a.eval x)).toList = parts.toList.map fun p => (p.1, a.eval p.2) := by simp
  simp only [execOp, ho, Instr.build, Sem.run_bind, hz, Result.andThen_ok, run_underlying h1, hm, hpm, Value.cells]
  rw [hf]
  rfl

/-! ### 2. New rows -/
theorem Rel.newOwn (h : Rel C.P w0 F G U nt ρ st a w) (hpr : ∀ o ∈ st.pr, o < st.nx) {el : El} (hel : el.Ok C.P) (xs : List el.α) (hm : xs.length ≤ maxLen) (d : Option Nat) (hd : dOk nt d = true) :
    ∃ ρ', Rel C.P w0 F G U nt ρ' ((st.newRow ⟨true, el, xs⟩).putD d (.pv (.one (.ref st.nx xs.length)))) (a.put d (.slice (some ⟨w.heap.size, 0, none⟩) xs.length xs.length)) (w.alloc (.cells (el.flat xs).toArray el.T)) := by
  let u : Value := .slice (some ⟨w.heap.size, 0, none⟩) xs.length xs.length
  have hown : (w.alloc (.cells (el.flat xs).toArray el.T)).ownsRow 0 el.T el.sz u xs.length (el.flat xs) := by
    have := World.ownsRow_lit (base := 0) (e := el.T) (size := el.sz) w (el.flat xs).toArray xs.length (Nat.zero_le _) hm (by simp [flat_length hel])
    simpa using this
  refine ⟨ρ.row st.nx u, h.next (Mem.newRow (h.mem.alloc _) (row := ⟨true, el, xs⟩) (u := u) ⟨hel, ?_⟩ ?_ ?_) rfl (fun v c => newRow_sc) rfl rfl rfl (map_row hpr u) d _ _ ?_ hd⟩
  · rw [if_pos rfl]
    exact ⟨hown, fun b hb => by injection hb with hb; subst hb; exact .inl h.mem.frm.size⟩
  · intro r' row' e _ b hb hb2
    have := all2_live_row h.mem r' row' e b hb2
    have hb3 : b = w.heap.size := by
      simp only [rblk, u, Value.ownBlock] at hb
      simpa using hb.symm
    omega
  · intro o ob e _ hb
    have := all2_live_ob h.mem o ob e
    simp only [rblk, u, Value.ownBlock] at hb
    simp at hb
    omega
  · refine ⟨by simp [St.newRow], fun row hr => ?_⟩
    simp only [St.newRow, look, if_true] at hr
    injection hr with hr; subst hr
    exact ⟨_, xs.length, xs.length, by simp [Rho.row, u], rfl, Nat.le_refl _⟩

theorem zero_flat {P : Program} {e : El} (h : e.Ok P) {z : Value} (hz : z.cells.toList = e.enc e.zero) (n : Nat) : ((Array.range (n * e.sz)).map (z.cells[· % z.cells.size]!)).toList = e.flat (List.replicate n e.zero) := by
  have hs : z.cells.size = e.sz := by rw [← Array.length_toList, hz, h.len]
  apply List.ext_getElem?
  intro k
  by_cases hk : k < n * e.sz
  · have hpos := h.pos
    have hq : k / e.sz < n := (Nat.div_lt_iff_lt_mul hpos).2 hk
    have hr : k % e.sz < e.sz := Nat.mod_lt _ hpos
    have hkk : k = k / e.sz * e.sz + k % e.sz := by rw [Nat.mul_comm]; exact (Nat.div_add_mod k e.sz).symm
    have := flat_get h (List.replicate n e.zero) (k / e.sz) (k % e.sz) (by simpa using hq) hr
    rw [← hkk] at this
    rw [this]
    have hg : (List.replicate n e.zero).getD (k / e.sz) e.zero = e.zero := by simp [List.getD_eq_getElem?_getD, hq]
    rw [hg, ← hz]
    simp [hk, hs]
    have h2 : k % e.sz < z.cells.size := by rw [hs]; exact hr
    rw [getElem!_pos z.cells (k % e.sz) h2]
    simp [Array.getElem?_eq_getElem h2]
  · have h1 : (e.flat (List.replicate n e.zero)).length = n * e.sz := by rw [flat_length h]; simp
    have e1 : (e.flat (List.replicate n e.zero))[k]? = none := List.getElem?_eq_none (by rw [h1]; omega)
    rw [e1]
    simp; omega

def partsOf (st : St) (el : El) : List (Nat × Operand) → List el.α → Option (List el.α)
  | [], xs => some xs
  | (i, x) :: r, xs =>
    match st.cells (ev st x) with
    | some ns => match valsOf ns with
      | some us => match el.dec us with
        | some y => if i < xs.length then partsOf st el r (xs.set i y) else none
        | none => none
      | none => none
    | none => none
theorem fill_parts (h : Rel C.P w0 F G U nt ρ st a w) {el : El} (hel : el.Ok C.P) : ∀ (parts : List (Nat × Operand)) (xs ys : List el.α), partsOf st el parts xs = some ys →
    Instr.fill (fun i => some (i * el.sz, el.sz)) (el.flat xs).toArray (parts.map fun p => (p.1, a.eval p.2)) = some (el.flat ys).toArray
  | [], xs, ys, hb => by simp only [partsOf] at hb; injection hb with hb; subst hb; rfl
  | (i, x) :: r, xs, ys, hb => by
    simp only [partsOf] at hb
    split at hb
    · rename_i ns e1
      split at hb
      · rename_i us e2
        split at hb
        · rename_i y e3
          split at hb
          · rename_i e4
            have hns := cells_ok (ev_ok h x) e1
            have hus := valsOf_ok hns e2
            have henc := hel.enc_dec _ _ e3
            have hsz : (a.eval x).cells.size = el.sz := by rw [← Array.length_toList, hus, ← henc, hel.len]
            have hle : i * el.sz + el.sz ≤ xs.length * el.sz := by have := Nat.mul_le_mul_right el.sz e4; rw [Nat.succ_mul] at this; exact this
            have hfl := flat_length hel xs
            rw [List.map_cons, fill_step rfl hsz (by simp; omega)]
            have := fill_parts h hel r (xs.set i y) ys hb
            rw [flat_set hel xs i y e4, henc, ← hus, Nat.add_mul, Nat.one_mul] at this
            exact this
          · cases hb
        · cases hb
      · cases hb
    · cases hb

theorem does_buildSlice (hC : C.Ok) (h : Rel C.P w0 F G U nt ρ st a w) (hpr : ∀ o ∈ st.pr, o < st.nx) {o : Oper} {T E n : Nat} {el : El} {parts : Array (Nat × Operand)} {xs : List el.α} (ho : o.op = .buildSlice T n parts) (hT : C.lay T = some (.sl E)) (hE : C.el E = some el) (hb : partsOf st el parts.toList (List.replicate n el.zero) = some xs) (hl : xs.length = n) (hn : n * el.sz ≤ 16777216) (hd : dOk nt o.dst = true) :
    Does C o a w (RR C w0 F G U nt ((st.newRow ⟨true, el, xs⟩).putD o.dst (.pv (.one (.ref st.nx n))))) := by
  obtain ⟨hel, hET⟩ := hC.el E el hE
  obtain ⟨i, z, hi1, hi2, hi3, hi4, hi5⟩ := hel.info
  rw [hET] at hi1
  have hty := (hC.lay T _ hT).1
  have hml : xs.length ≤ maxLen := by
    have := Nat.le_mul_of_pos_right n hel.pos
    simp only [maxLen]; omega
  obtain ⟨ρ', hr⟩ := h.newOwn hpr hel xs hml o.dst hd
  rw [hl] at hr
  refine ⟨_, _, .inl ?_, ρ', hr⟩
  have hf := fill_parts h hel parts.toList _ _ hb
  have hpm : (parts.map fun (i, x) => (i, a.eval x)).toList = parts.toList.map fun p => (p.1, a.eval p.2) := by simp
  have hnot : ¬ (n * el.sz > 2 ^ 24) := by omega
  simp only [execOp, ho, Instr.buildSlice, Sem.run_bind, run_underlying hty, Result.andThen_ok, sizeOf, typeInfo, run_program, hi1, Sem.run_pure, hi2]
  simp only [if_neg hnot, Sem.run_bind, Sem.run_pure, Result.andThen_ok]
  by_cases h0 : n * el.sz = 0
  · have hn0 : n = 0 := by
      rcases Nat.mul_eq_zero.1 h0 with h0 | h0
      · exact h0
      · have := hel.pos; omega
    subst hn0
    rw [if_pos h0]
    have e0 : (el.flat (List.replicate 0 el.zero)).toArray = #[] := by simp [El.flat]
    rw [e0] at hf
    have er : ∀ g : Nat → Value, (Array.range (0 * el.sz)).map g = #[] := fun g => by rw [Nat.zero_mul]; apply Array.ext'; simp
    simp only [Sem.run_bind, Sem.run_pure, Result.andThen_ok, er, hpm, hf]
    simp [newRow, hET]
  · rw [if_neg h0]
    have hz : (zeroValue E).run C.P w = .ok z w := by simp [zeroValue, typeInfo, hi1, hi4]
    have hcells : ((Array.range (n * el.sz)).map (z.cells[· % z.cells.size]!)) = (el.flat (List.replicate n el.zero)).toArray := by
      apply Array.ext'
      rw [zero_flat hel hi5]
    simp only [Sem.run_bind, hz, Result.andThen_ok, Sem.run_pure, hcells, hpm, hf]
    simp [newRow, hET]

end
end Go.Proofs.Ytjmhffbenbiieaa.Ev
