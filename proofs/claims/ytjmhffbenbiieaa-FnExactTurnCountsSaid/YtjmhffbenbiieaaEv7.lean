/- Part 7: moves, plain operations, parts, cuts. -/
import Derived.Test.YtjmhffbenbiieaaEv6
set_option linter.unusedVariables false
set_option linter.unusedSimpArgs false
namespace Go.Proofs.Ytjmhffbenbiieaa.Ev
open Go.RowKit

section
variable {C : Cx} {w0 : World} {F : Nat → Prop} {G : List Nat} {U : List Value} {nt : Nat} {ρ : Rho} {st : St} {a : Act} {w : World}

theorem does_move (h : Rel C.P w0 F G U nt ρ st a w) {o : Oper} {x : Operand} (ho : o.op = .move x ∨ o.op = .assign x) : Reads C ρ st o a w (ev st x) := by
  refine ⟨a.eval x, ?_, (ev_ok h x)⟩
  rcases ho with ho | ho <;> simp only [execOp, ho] <;> rfl

def SV.bool? : SV → Option Bool
  | .pv (.one (.val (.bool b))) => some b
  | _ => none
theorem bool?_ok {v : Value} {s : SV} {b : Bool} (h : svOk ρ st v s) (hs : s.bool? = some b) : v = .bool b := by
  unfold SV.bool? at hs
  split at hs
  · injection hs with hs; subst hs; exact h
  · cases hs
def pickSV (t : Bool) (x y : SV) : SV :=
  match x.bool?, y.bool? with
  | some a, some b => .pv (.one (.val (.bool (cond t a b))))
  | _, _ => cond t x y
theorem pickSV_ok {t : Bool} {x y : SV} {u v : Value} (hx : svOk ρ st u x) (hy : svOk ρ st v y) : svOk ρ st (if t = true then u else v) (pickSV t x y) := by
  have other : svOk ρ st (if t = true then u else v) (cond t x y) := by cases t <;> assumption
  unfold pickSV
  cases e1 : x.bool? with
  | none => exact other
  | some a =>
    cases e2 : y.bool? with
    | none => exact other
    | some b =>
      rw [bool?_ok hx e1, bool?_ok hy e2]
      cases t <;> rfl
theorem does_pick (h : Rel C.P w0 F G U nt ρ st a w) {o : Oper} {x y z : Operand} {t : Bool} (ho : o.op = .pick x y z) (hx : (ev st x).bool? = some t) : Reads C ρ st o a w (pickSV t (ev st y) (ev st z)) := by
  have hv := bool?_ok (ev_ok h x) hx
  refine ⟨_, ?_, (pickSV_ok (t := t) (ev_ok h y) (ev_ok h z))⟩
  simp only [execOp, ho, hv, asBool, Sem.run_bind, Sem.run_pure, Result.andThen_ok]

theorem does_bin (hC : C.Ok) (h : Rel C.P w0 F G U nt ρ st a w) {o : Oper} {op : BinOp} {T T' : Nat} {x y : Operand} {u v r : Value} (ho : o.op = .binOp op T x y T') (hx : (ev st x).val? = some u) (hy : (ev st y).val? = some v) (hr : binV op u v = some r)
    (hb : ∀ a b, u = .bool a → v = .bool b → C.P.underlying T = some .bool) : Reads C ρ st o a w (.pv (.one (.val r))) := by
  have e1 := val?_ok (ev_ok h x) hx
  have e2 := val?_ok (ev_ok h y) hy
  refine ⟨r, ?_, rfl⟩
  have := binV_ok (P := C.P) (t := T) (x := x) (y := y) hr hb w
  simp only [execOp, ho, e1, e2]
  rw [Sem.run_bind, this]; rfl
theorem does_un (h : Rel C.P w0 F G U nt ρ st a w) {o : Oper} {op : UnOp} {T : Nat} {x : Operand} {u r : Value} (ho : o.op = .unOp op T x) (hx : (ev st x).val? = some u) (hr : unV op u = some r) :
    Reads C ρ st o a w (.pv (.one (.val r))) := by
  have e1 := val?_ok (ev_ok h x) hx
  refine ⟨r, ?_, rfl⟩
  simp only [execOp, ho, e1]
  rw [Sem.run_bind, unV_ok hr]; rfl
/-- A plain operation that is told apart: it comes to r, whatever the world. -/
theorem does_plain (h : Rel C.P w0 F G U nt ρ st a w) {o : Oper} {r : Value} (hr : ∀ (ev' : Operand → Value) (w : World), (∀ x u, (ev st x).val? = some u → ev' x = u) → (∀ x us cs, ev st x = .pv (.agg cs) → valsOf cs = some us → ev' x = .agg us.toArray) → (execOp ev' o).run C.P w = .ok (.value r) w) :
    Reads C ρ st o a w (.pv (.one (.val r))) :=
  ⟨r, (hr a.eval w (fun x u hx => val?_ok (ev_ok h x) hx) (fun x us cs hx hu => by
    have := ev_ok h x
    rw [hx] at this
    obtain ⟨vs, e, hv⟩ := this
    rw [e, valsOf_ok hv hu])), rfl⟩
theorem does_convInt (hC : C.Ok) (h : Rel C.P w0 F G U nt ρ st a w) {o : Oper} {S T : Nat} {x : Operand} {k k' : IntKind} {n : Int} (ho : o.op = .convert S T x) (hx : (ev st x).val? = some (.int k n)) (hT : C.P.underlying T = some (.int k')) (hS : ∃ d, C.P.underlying S = some d) :
    Reads C ρ st o a w (.pv (.one (.val (.int k' (k'.wrap n))))) := by
  have e1 := val?_ok (ev_ok h x) hx
  obtain ⟨d, hS⟩ := hS
  refine ⟨_, ?_, rfl⟩
  simp only [execOp, ho, e1, convert, Sem.run_bind, run_underlying hS, run_underlying hT, Result.andThen_ok, Conv.intToInt, Sem.run_pure]

/-- 'len'. -/
def lenOf (st : St) : SV → Option Int
  | .pv (.one (.val (.string s))) => some s.size
  | .pv (.one (.val (.slice none 0 0))) => some 0
  | .pv (.one (.ref r n)) => if (look st.rw r).isSome then some n else none
  | _ => none
theorem does_len (hC : C.Ok) (h : Rel C.P w0 F G U nt ρ st a w) {o : Oper} {T : Nat} {x : Operand} {n : Int} (ho : o.op = .call { callee := .builtin .len, args := #[x], argTypes := #[T] }) (hT : C.lay T = some .str ∨ ∃ e, C.lay T = some (.sl e)) (hT' : C.lay T = some .str ↔ ∃ s, (ev st x).val? = some (.string s)) (hx : lenOf st (ev st x) = some n) :
    Reads C ρ st o a w (.pv (.one (.val (.int .i64 n)))) := by
  have hv := ev_ok h x
  have fin : (Builtin.len_ #[T] o.type #[a.eval x]).run C.P w = .ok (.int .i64 n) w → Reads C ρ st o a w (.pv (.one (.val (.int .i64 n)))) := by
    intro hr
    refine ⟨_, ?_, rfl⟩
    simp only [execOp, ho, resolve, invoke, builtin, Sem.run_bind, Sem.run_pure, Result.andThen_ok, List.map_toArray, List.map_cons, List.map_nil, hr]
  refine fin ?_
  revert hx hT'
  cases hs : ev st x with
  | tup ps => simp [lenOf]
  | pv p =>
    rw [hs] at hv
    cases p with
    | agg cs => simp [lenOf]
    | one c =>
      cases c with
      | val v =>
        rw [show a.eval x = v from hv]
        intro hT' hx
        simp only [lenOf] at hx
        cases v with
        | string s =>
          injection hx with hx; subst hx
          have := hT'.2 ⟨s, rfl⟩
          have hu := (hC.lay T _ this).1
          simp [Builtin.len_, run_underlying hu, goInt]
        | slice A n' c =>
          cases A with
          | some ad => cases hx
          | none =>
            cases n' with
            | succ _ => cases hx
            | zero =>
              cases c with
              | succ _ => cases hx
              | zero =>
                injection hx with hx; subst hx
                rcases hT with hT | ⟨e, hT⟩
                · obtain ⟨s, hs⟩ := hT'.1 hT; simp [SV.val?] at hs
                · have hu := (hC.lay T _ hT).1
                  simp [Builtin.len_, run_underlying hu, goInt]
        | _ => cases hx
      | ref r m =>
        intro hT' hx
        simp only [lenOf] at hx
        split at hx
        · rename_i hl
          injection hx with hx; subst hx
          rw [Option.isSome_iff_exists] at hl
          obtain ⟨row, hr⟩ := hl
          obtain ⟨A, m', c, _, e, _⟩ := hv.2 row hr
          rcases hT with hT | ⟨e', hT⟩
          · obtain ⟨s, hs⟩ := hT'.1 hT; simp [SV.val?] at hs
          · have hu := (hC.lay T _ hT).1
            rw [e]
            simp [Builtin.len_, run_underlying hu, goInt]
        · cases hx
      | _ => intro _ hx; cases hx

def mmV (op : Builtin) : Value → Value → Option Value
  | .int k x, .int k' y => match op with
    | .max => some (.int k (if y > x then y else x))
    | .min => some (.int k (if y < x then y else x))
    | _ => none
  | _, _ => none
theorem does_mm (h : Rel C.P w0 F G U nt ρ st a w) {o : Oper} {b : Builtin} {ts : Array TypeId} {x y : Operand} {u v r : Value} (ho : o.op = .call { callee := .builtin b, args := #[x, y], argTypes := ts }) (hx : (ev st x).val? = some u) (hy : (ev st y).val? = some v) (hr : mmV b u v = some r) :
    Reads C ρ st o a w (.pv (.one (.val r))) := by
  have e1 := val?_ok (ev_ok h x) hx
  have e2 := val?_ok (ev_ok h y) hy
  refine ⟨r, ?_, rfl⟩
  unfold mmV at hr
  split at hr
  · split at hr
    · injection hr with hr; subst hr
      simp only [execOp, ho, resolve, invoke, builtin, Sem.run_bind, Sem.run_pure, Result.andThen_ok, List.map_toArray, List.map_cons, List.map_nil, e1, e2]
      simp [Builtin.max_, Builtin.max2]
    · injection hr with hr; subst hr
      simp only [execOp, ho, resolve, invoke, builtin, Sem.run_bind, Sem.run_pure, Result.andThen_ok, List.map_toArray, List.map_cons, List.map_nil, e1, e2]
      simp [Builtin.min_, Builtin.min2]
    · cases hr
  · cases hr

/-- A part of an aggregate. -/
theorem run_part {P : Program} {T : Nat} {l : Lay} (hl : LayOk1 P T l) {vs : List Value} {cs : List SC} {off : Nat} {s : SV} (hvs : All2 (scOk ρ st) vs cs) (hs : ldCells l cs off = some s) : ∃ v, (part T vs.toArray off).run P w = .ok v w ∧ svOk ρ st v s := by
  have one : ∀ (d : TypeDesc), P.underlying T = some d → (∀ fs, d ≠ .struct fs) → (∀ n e, d ≠ .array n e) → (cs[off]?).map (fun c => SV.pv (.one c)) = some s → ∃ v, (part T vs.toArray off).run P w = .ok v w ∧ svOk ρ st v s := by
    intro d hu h1 h2 h
    simp only [Option.map_eq_some_iff] at h
    obtain ⟨c, hc, rfl⟩ := h
    obtain ⟨u, hu', huc⟩ := hvs.get hc
    refine ⟨u, ?_, huc⟩
    have hagg : (isAgg T).run P w = .ok false w := by
      simp only [isAgg, Sem.run_bind, run_underlying hu, Result.andThen_ok]
      cases d <;> first | rfl | exact absurd rfl (h1 _) | exact absurd rfl (h2 _ _)
    simp [part, hagg, hu']
  cases l with
  | st sz zs fs =>
    simp only [ldCells] at hs
    split at hs
    · rename_i hle
      injection hs with hs; subst hs
      obtain ⟨fa, i, hu, hi, hsz, _⟩ := hl
      have hagg : (isAgg T).run P w = .ok true w := by simp [isAgg, run_underlying hu]
      refine ⟨.agg ((vs.drop off).take sz).toArray, ?_, _, rfl, (hvs.drop off).take sz⟩
      simp [part, hagg, sizeOf, typeInfo, hi, hsz, List.take_drop]
    · cases hs
  | sc z => obtain ⟨h0, d, i, hu, h1, h2, _⟩ := hl; exact one d hu h1 h2 hs
  | sl e => obtain ⟨hu, i, _⟩ := hl; exact one _ hu (by simp) (by simp) hs
  | str => obtain ⟨hu, i, _⟩ := hl; exact one _ hu (by simp) (by simp) hs
theorem does_field (hC : C.Ok) (h : Rel C.P w0 F G U nt ρ st a w) {o : Oper} {S k : Nat} {x : Operand} {l l' : Lay} {p : Nat × Nat} {cs : List SC} {s : SV} (ho : o.op = .field S x k) (hl : C.lay S = some l) (hf : l.fld k = some p) (hl' : C.lay p.2 = some l') (hx : ev st x = .pv (.agg cs)) (hs : ldCells l' cs p.1 = some s) :
    Reads C ρ st o a w s := by
  have hv := ev_ok h x
  rw [hx] at hv
  obtain ⟨vs, e, hvs⟩ := hv
  cases l with
  | st sz zs fs =>
    obtain ⟨fa, i, h1, h2, h3, h4, h5, h5', h6⟩ := hC.lay S _ hl
    obtain ⟨f, j, hf1, hf2, hf3, hf4, hf5⟩ := h6 k p hf
    obtain ⟨v, hr, hsv⟩ := run_part (w := w) (hC.lay _ _ hl') hvs hs
    refine ⟨v, ?_, hsv⟩
    rw [← hf2, ← hf3] at hr
    simp only [execOp, ho, e, Instr.field, Sem.run_bind, run_underlying h1, Result.andThen_ok, hf1, asAgg, Sem.run_pure, hr]
  | _ => cases hf

theorem does_extract (h : Rel C.P w0 F G U nt ρ st a w) {o : Oper} {x : Operand} {i : Nat} {ps : List PV} {p : PV} (ho : o.op = .extract x i) (hx : ev st x = .tup ps) (hp : ps[i]? = some p) : Reads C ρ st o a w (.pv p) := by
  have hv := ev_ok h x
  rw [hx] at hv
  obtain ⟨vs, e, hvs⟩ := hv
  obtain ⟨u, hu, hup⟩ := hvs.get hp
  refine ⟨u, ?_, hup⟩
  simp [execOp, ho, e, Instr.extract, hu]

/-- A closure over variables of the call's own. -/
def cloOf : List SV → Option (List Nat)
  | [] => some []
  | .pv (.one (.ptr o 0)) :: r => (cloOf r).map (o :: ·)
  | _ :: _ => none
theorem cloOf_ok {vs : List Value} {ss : List SV} {os : List Nat} (hv : All2 (svOk ρ st) vs ss) (hs : cloOf ss = some os) : (∀ o ∈ os, o < st.nx) ∧ ((∀ o ∈ os, (look st.ob o).isSome) → vs = os.map fun o => Value.pointer (some ⟨ρ.os o, 0, none⟩)) := by
  induction hv generalizing os with
  | nil => simp [cloOf] at hs; subst hs; simp
  | @cons x y xs ys hx _ ih =>
    unfold cloOf at hs
    split at hs
    · rename_i e; cases e
    · rename_i o r e
      injection e with e1 e2
      subst e1; subst e2
      simp only [Option.map_eq_some_iff] at hs
      obtain ⟨os', hs', rfl⟩ := hs
      obtain ⟨h1, h2⟩ := ih hs'
      refine ⟨fun q hq => ?_, fun hq => ?_⟩
      · rcases List.mem_cons.1 hq with rfl | hq
        · exact hx.1
        · exact h1 q hq
      · have := hq o (by simp)
        rw [Option.isSome_iff_exists] at this
        obtain ⟨ob, hob⟩ := this
        rw [hx.2 ob hob, h2 fun q hq' => hq q (by simp [hq'])]
        rfl
    · cases hs
theorem all2_ev (h : Rel C.P w0 F G U nt ρ st a w) (xs : List Operand) : All2 (svOk ρ st) (xs.map a.eval) (xs.map (ev st)) := by
  induction xs with
  | nil => exact .nil
  | cons x xs ih => exact .cons (ev_ok h x) ih
theorem does_makeFunc (h : Rel C.P w0 F G U nt ρ st a w) {o : Oper} {f : Nat} {cap : Array Operand} {os : List Nat} (ho : o.op = .makeFunc (.func f) #[] cap) (hs : cloOf (cap.toList.map (ev st)) = some os) : Reads C ρ st o a w (.pv (.one (.clo f os))) := by
  obtain ⟨h1, h2⟩ := cloOf_ok (all2_ev h cap.toList) hs
  refine ⟨.func (.func f) #[] (cap.map a.eval), ?_, ⟨h1, fun hq => ?_⟩⟩
  · simp [execOp, ho, Instr.makeFunc]
  · rw [← h2 hq]
    congr 1
    apply Array.ext'
    simp

theorem does_index (hC : C.Ok) (h : Rel C.P w0 F G U nt ρ st a w) {o : Oper} {T : Nat} {x y : Operand} {s : ByteArray} {k : IntKind} {i : Int} (ho : o.op = .index T x y) (hl : C.lay T = some .str) (hx : (ev st x).val? = some (.string s)) (hy : (ev st y).val? = some (.int k i)) (h0 : 0 ≤ i) (h1 : i < s.size) :
    Reads C ρ st o a w (.pv (.one (.val (.int .u8 ((s.data.toList.getD i.toNat 0).toNat))))) := by
  have e1 := val?_ok (ev_ok h x) hx
  have e2 := val?_ok (ev_ok h y) hy
  have hu := (hC.lay T _ hl).1
  refine ⟨_, ?_, rfl⟩
  have hlt : i.toNat < s.size := by omega
  have hb : s[i.toNat]? = some (s.data.toList.getD i.toNat 0) := by
    have : i.toNat < s.data.toList.length := by simpa using hlt
    rw [List.getD_eq_getElem?_getD, List.getElem?_eq_getElem this]
    simp [getElem?_pos, hlt]
    rfl
  simp only [execOp, ho, e1, e2, Instr.index, asIntOf, Sem.run_bind, Sem.run_pure, Result.andThen_ok, run_underlying hu]
  rw [if_pos h0, hb]
  rfl

end
end Go.Proofs.Ytjmhffbenbiieaa.Ev
