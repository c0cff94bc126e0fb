/- Part 16: what an operation comes to, reckoned: those that write, those that call. -/
import Derived.Test.YtjmhffbenbiieaaEv15
set_option linter.unusedVariables false
set_option linter.unusedSimpArgs false
namespace Go.Proofs.Ytjmhffbenbiieaa.Ev
open Go.RowKit

def mapO {α β : Type _} (f : α → Option β) : List α → Option (List β)
  | [] => some []
  | x :: r => match f x, mapO f r with
    | some y, some ys => some (y :: ys)
    | _, _ => none
theorem mapO_ok {α β : Type _} {f : α → Option β} : ∀ {l : List α} {r : List β}, mapO f l = some r → All2 (fun x y => f x = some y) l r
  | [], r, h => by simp only [mapO] at h; injection h with h; subst h; exact .nil
  | x :: l, r, h => by
    simp only [mapO] at h
    split at h
    · rename_i y ys e1 e2
      injection h with h; subst h
      exact .cons e1 (mapO_ok e2)
    · cases h
def memB : List Nat → Nat → Bool
  | [], _ => false
  | x :: r, y => if x = y then true else memB r y
theorem memB_ok {l : List Nat} {x : Nat} (h : memB l x = false) : x ∉ l := by
  induction l with
  | nil => simp
  | cons y r ih =>
    simp only [memB] at h
    split at h
    · cases h
    · rename_i hne
      simp only [List.mem_cons, not_or]
      exact ⟨fun e => hne e.symm, ih h⟩
def nodupB : List Nat → Bool
  | [] => true
  | x :: r => if memB r x = true then false else nodupB r
theorem nodupB_ok {l : List Nat} (h : nodupB l = true) : l.Nodup := by
  induction l with
  | nil => exact List.nodup_nil
  | cons x r ih =>
    simp only [nodupB] at h
    split at h
    · cases h
    · rename_i hne
      exact List.nodup_cons.2 ⟨memB_ok (by simpa using hne), ih h⟩

/-! ### 1. What is handed over: all objects that can be reached -/
def scObs : SC → List Nat
  | .ptr o _ => [o]
  | .clo _ os => os
  | _ => []
def csObs : List SC → List Nat
  | [] => []
  | c :: cs => scObs c ++ csObs cs
def svObs : SV → List Nat
  | .pv (.one c) => scObs c
  | .pv (.agg cs) => csObs cs
  | .tup _ => []
def svsObs : List SV → List Nat
  | [] => []
  | s :: r => svObs s ++ svsObs r
def reach (st : St) : Nat → List Nat → List Nat → List Nat
  | 0, _, acc => acc
  | _, [], acc => acc
  | n + 1, o :: todo, acc => if memB acc o = true then reach st n todo acc else match look st.ob o with
    | some ob => reach st n (todo ++ csObs ob.cs) (acc ++ [o])
    | none => reach st n todo acc
def rowC : List SC → Option Nat
  | [] => none
  | .ref r _ :: _ => some r
  | _ :: cs => rowC cs
def rowOf : SV → Option Nat
  | .pv (.one (.ref r _)) => some r
  | .pv (.one (.eptr r _ _)) => some r
  | .pv (.agg cs) => rowC cs
  | _ => none
/-- What a call is asked for. -/
structure CallG (C : Cx) (f : Nat) (args : List AC) (ho : List HO) (hm : List Row) (K : List RC → List HO → List Row → Prop) : Prop where
  ok : ∃ Q, OkR C f args ho hm Q ∧ ∀ res ho' hm', Q res ho' hm' → K res ho' hm'
theorem CallG.of {C : Cx} {f : Nat} {args : List AC} {ho : List HO} {hm : List Row} {K : List RC → List HO → List Row → Prop} {res : List RC} {ho' : List HO} {hm' : List Row} (h : Ok C f args ho hm res ho' hm') (k : K res ho' hm') : CallG C f args ho hm K :=
  ⟨_, h, fun _ _ _ ⟨e1, e2, e3⟩ => by subst e1; subst e2; subst e3; exact k⟩
theorem CallG.at {C : Cx} {f : Nat} {args args0 : List AC} {ho ho0 : List HO} {hm hm0 : List Row} {K : List RC → List HO → List Row → Prop} {res : List RC} {ho' : List HO} {hm' : List Row} (h : Ok C f args0 ho0 hm0 res ho' hm') (k : K res ho' hm') (e1 : args = args0 := by first | rfl | (simp; done)) (e2 : ho = ho0 := by first | rfl | (simp; done)) (e3 : hm = hm0 := by first | rfl | (simp; done)) : CallG C f args ho hm K := by
  subst e1; subst e2; subst e3; exact CallG.of h k
theorem CallG.ofR {C : Cx} {f : Nat} {args : List AC} {ho : List HO} {hm : List Row} {K : List RC → List HO → List Row → Prop} {Q : List RC → List HO → List Row → Prop} (h : OkR C f args ho hm Q) (k : ∀ res ho' hm', Q res ho' hm' → K res ho' hm') : CallG C f args ho hm K := ⟨Q, h, k⟩
def callP1 (C : Cx) (st : St) (f : Nat) (svs : List SV) (os ms kn : List Nat) (K : St → SV → Prop) : Prop :=
  match exHO st (C.rd f) os (ms ++ kn) os, exHM st ms, mapO (exA st os ms kn) svs with
  | some ho, some hm, some args => if nodupB os = true ∧ nodupB (ms ++ kn) = true then
      CallG C f args ho hm (fun res ho' hm' => fV (st.backV os ms ho' res) fun s => fSt (st.back (C.rd f) os ms ho' hm' res) fun st' => K st' s) else False
  | _, _, _ => False
def callP (C : Cx) (st : St) (f : Nat) (svs : List SV) (K : St → SV → Prop) : Prop :=
  fNs (reach st 40 (svsObs svs) []) fun os => match mapO (fun p => (svs[p]?).bind rowOf) (C.mu f) with
  | some ms => fNs ms fun ms => fNs (exKn st (C.rd f) os) fun kn => callP1 C st f svs os ms kn K
  | none => False

/-- What an append is asked for. -/
structure AppG {α : Type} (o : Option (List α)) (n : Nat) (K : List α → Prop) : Prop where
  ok : ∃ ys, o = some ys ∧ n ≤ 140737488355328 ∧ K ys
theorem AppG.of {α : Type} {o : Option (List α)} {n : Nat} {K : List α → Prop} (ys : List α) (h : o = some ys) (hn : n ≤ 140737488355328) (k : K ys) : AppG o n K := ⟨ys, h, hn, k⟩
/-- A slice held against nil. -/
structure NilG {α : Type} (xs : List α) (K : Bool → Prop) : Prop where
  ok : ∀ b : Bool, (b = true → xs = []) → K b
/-- What an operation comes to. -/
def opP (C : Cx) (nt : Nat) (st : St) (o : Oper) (K : St → Prop) : Prop :=
  if dOk nt o.dst = true then
    match o.op with
    | .alloc T => match C.lay T with
      | some l => K ((st.newOb ⟨T, l.zero.map .val, true⟩).putD o.dst (.pv (.one (.ptr st.nx 0))))
      | none => False
    | .box T x => match st.cells (ev st x) with
      | some cs => K ((st.newOb ⟨T, cs, true⟩).putD o.dst (.pv (.one (.ptr st.nx 0))))
      | none => False
    | .store T x y => match C.lay T, ev st x, st.cells (ev st y) with
      | some l, .pv (.one (.ptr q off)), some ns => match look st.ob q with
        | some ob => if ob.own = true ∧ ns.all st.live = true ∧ ns.length = l.cnt ∧ off + ns.length ≤ ob.cs.length then K ((st.setOb q ⟨ob.T, splice ob.cs off ns, true⟩).putD o.dst (.pv (.one .undef))) else False
        | none => False
      | some l, .pv (.one (.eptr r i j)), some ns => match look st.rw r, valsOf ns with
        | some row, some us => if row.own = true ∧ ns.all st.live = true ∧ us.length = l.cnt ∧ j + us.length ≤ row.el.sz then
            match row.el.dec ((row.el.enc (row.xs.getD i row.el.zero)).take j ++ us ++ (row.el.enc (row.xs.getD i row.el.zero)).drop (j + us.length)) with
            | some z => K ((st.setRow r ⟨true, row.el, row.xs.set i z⟩).putD o.dst (.pv (.one .undef)))
            | none => False
          else False
        | _, _ => False
      | _, _, _ => False
    | .slice T x (some lo) hi none => match C.lay T, ev st x with
      | some (.sl E), .pv (.one (.ref r n)) => match look st.rw r, bnd st (some lo) 0, bnd st hi n with
        | some row, some l, some u => if E = row.el.T then
            Bnd1 (0 ≤ l ∧ l ≤ u ∧ u ≤ n) (K (((st.shutR r).newRow ⟨false, row.el, (row.xs.take u.toNat).drop l.toNat⟩).putD o.dst (.pv (.one (.ref st.nx (u.toNat - l.toNat)))))) else False
        | _, _, _ => False
      | _, _ => readP C st o fun s => K (st.putD o.dst s)
    | .buildSlice T n parts => match C.lay T with
      | some (.sl E) => match C.el E with
        | some el => match partsOf st el parts.toList (List.replicate n el.zero) with
          | some xs => if xs.length = n ∧ n * el.sz ≤ 16777216 then K ((st.newRow ⟨true, el, xs⟩).putD o.dst (.pv (.one (.ref st.nx n)))) else False
          | none => False
        | none => False
      | _ => False
    | .makeSlice T x y => match C.lay T, (ev st x).int?, (ev st y).int? with
      | some (.sl E), some n, some m => match C.el E with
        | some el => Bnd (m = n) (0 ≤ n ∧ n.toNat * el.bytes ≤ 281474976710656) (K ((st.newRow ⟨true, el, List.replicate n.toNat el.zero⟩).putD o.dst (.pv (.one (.ref st.nx n.toNat)))))
        | none => False
      | _, _, _ => False
    | .call c => match c.callee, c.args.toList, c.argTypes.toList with
      | .builtin .append, [x, y], [T, T'] => if T = T' then
          match C.lay T, ev st x, ev st y with
          | some (.sl E), .pv (.one (.ref r n)), .pv (.one (.ref r2 m)) => match look st.rw r, look st.rw r2 with
            | some row, some row2 => if row.own = true ∧ E = row.el.T then
                AppG (convRow row.el row2.el (row2.xs.take m)) ((n + m) * row.el.bytes) (fun ys => K (((st.kill r).newRow ⟨true, row.el, row.xs.take n ++ ys⟩).putD o.dst (.pv (.one (.ref st.nx (n + m)))))) else False
            | _, _ => False
          | some (.sl E), .pv (.one (.val (.slice none 0 0))), .pv (.one (.ref r2 m)) => match C.el E, look st.rw r2 with
            | some el, some row2 => AppG (convRow el row2.el (row2.xs.take m)) (m * el.bytes) (fun ys => K ((st.newRow ⟨true, el, ys⟩).putD o.dst (.pv (.one (.ref st.nx m)))))
            | _, _ => False
          | _, _, _ => False
        else False
      | .value x, _, _ => match ev st x with
        | .pv (.one (.clo f os)) => if st.live (.clo f os) = true then
            callP C st f (c.args.toList.map (ev st) ++ os.map fun o => .pv (.one (.ptr o 0))) fun st' s => K (st'.putD o.dst s) else False
        | _ => False
      | _, _, _ => readP C st o fun s => K (st.putD o.dst s)
    | .binOp op T x y _ => match op, y, ev st x with
      | .eql, .const (.slice none 0 0), .pv (.one (.ref r n)) => match look st.rw r, C.lay T with
        | some row, some (.sl _) => NilG row.xs (fun b => K (st.putD o.dst (.pv (.one (.val (.bool b))))))
        | _, _ => False
      | _, _, _ => readP C st o fun s => K (st.putD o.dst s)
    | _ => readP C st o fun s => K (st.putD o.dst s)
  else False

/-- The names that are kept are there. -/
def Wf (st : St) : Prop := (∀ o ∈ st.po, o < st.nx) ∧ ∀ r ∈ st.pr, r < st.nx
/-- A state, as it stands to the machine's. -/
def RW (P : Program) (w0 : World) (F : Nat → Prop) (G : List Nat) (U : List Value) (nt : Nat) (st : St) (a : Act) (w : World) : Prop := Wf st ∧ R P w0 F G U nt st a w

section
variable {C : Cx} {w0 : World} {F : Nat → Prop} {G : List Nat} {U : List Value} {nt : Nat} {ρ : Rho} {st : St} {a : Act} {w : World}

theorem Wf.mono {st' : St} (h : Wf st) (hp : st'.po = st.po) (hr : st'.pr = st.pr) (hn : st.nx ≤ st'.nx) : Wf st' := by
  unfold Wf; rw [hp, hr]
  exact ⟨fun o ho => Nat.lt_of_lt_of_le (h.1 o ho) hn, fun o ho => Nat.lt_of_lt_of_le (h.2 o ho) hn⟩
theorem putD_po (d : Option Nat) (s : SV) : (st.putD d s).po = st.po := by cases d <;> rfl
theorem putD_pr (d : Option Nat) (s : SV) : (st.putD d s).pr = st.pr := by cases d <;> rfl
theorem putD_nx (d : Option Nat) (s : SV) : (st.putD d s).nx = st.nx := by cases d <;> rfl
theorem Wf.putD (h : Wf st) (d : Option Nat) (s : SV) : Wf (st.putD d s) := h.mono (putD_po d s) (putD_pr d s) (by rw [putD_nx]; exact Nat.le_refl _)

theorem Does.wp {o : Oper} {K : Act → World → Prop} {Q : Exit → Act → World → Prop} (h : Does C o a w K) : o.wp C.P a w K Q := by
  obtain ⟨v, w', h1 | ⟨h1, rfl⟩, hK⟩ := h
  · simp only [Oper.wp, h1, Oper.upon]; exact hK
  · simp only [Oper.wp, h1, Oper.upon]; exact hK
theorem Does.fin {o : Oper} {st' : St} {K : St → Prop} {Q : Exit → Act → World → Prop} (hd : Does C o a w (RR C w0 F G U nt st')) (hw : Wf st') (hK : K st') :
    o.wp C.P a w (fun a' w' => ∃ st', K st' ∧ RW C.P w0 F G U nt st' a' w') Q :=
  Oper.wp_mono (fun a' w' h => ⟨st', hK, hw, h⟩) hd.wp

/-- Is the slice nil? If so, it is empty. -/
theorem does_isNil (hC : C.Ok) (h : Rel C.P w0 F G U nt ρ st a w) {o : Oper} {T T' r n E : Nat} {x : Operand} {row : Row} (ho : o.op = .binOp .eql T x (.const (.slice none 0 0)) T') (hx : ev st x = .pv (.one (.ref r n))) (hr : look st.rw r = some row) (hl : C.lay T = some (.sl E)) :
    ∃ b : Bool, (b = true → row.xs = []) ∧ Reads C ρ st o a w (.pv (.one (.val (.bool b)))) := by
  have hv := ev_ok h x
  rw [hx] at hv
  obtain ⟨A, m, c, e1, hp, hn⟩ := hv.2 row hr
  have hu := (hC.lay T _ hl).1
  obtain ⟨A', c', e2, _, _, h3⟩ := row_rd (h.mem.row r row hr)
  rw [e1] at e2; injection e2 with e2 _ _
  refine ⟨A.isNone, fun hb => ?_, .bool A.isNone, ?_, rfl⟩
  · cases hxs : row.xs with
    | nil => rfl
    | cons y ys =>
      obtain ⟨ad, e3, _⟩ := h3 (by rw [hxs]; simp)
      rw [← e2] at e3; subst e3; cases hb
  · have hg : (eqGuard .eql T x (.const (.slice none 0 0)) (.slice A n c) (.slice none 0 0)).run C.P w = .ok () w := rfl
    have he : (Op.equal T (.slice A n c) (.slice none 0 0)).run C.P w = .ok A.isNone w := by
      have key : ∀ d, (Op.equalIn (d + 1) T (.slice A n c) (.slice none 0 0)).run C.P w = .ok A.isNone w := by
        intro d
        simp only [Op.equalIn, Sem.run_bind, run_underlying hu, Result.andThen_ok]
        cases A <;> rfl
      unfold Op.equal Op.maxDepth
      exact key 9999
    have hb : (binOp .eql T (.slice A n c) (.slice none 0 0)).run C.P w = .ok (.bool A.isNone) w := by
      show (do pure (.bool (← Op.equal T (.slice A n c) (.slice none 0 0))) : Sem Value).run C.P w = _
      rw [Sem.run_bind, he]; rfl
    have hc : a.eval (.const (.slice none 0 0)) = .slice none 0 0 := rfl
    simp only [execOp, ho, hp, hc]
    rw [Sem.run_bind, Sem.run_bind, hg]
    simp only [Result.andThen_ok, hb]
    rfl
theorem run_callF {o : Oper} {c : Call} {x : Operand} {f : Nat} {cap : Array Value} (ho : o.op = .call c) (hc : c.callee = .value x) (hx : a.eval x = .func (.func f) #[] cap) (he : Entered C.P f) :
    (execOp a.eval o).run C.P w = .ok (.enter f (c.args.map a.eval ++ cap)) w := by
  obtain ⟨fn, h1, h2, h3⟩ := he
  simp [execOp, ho, resolve, hc, hx, Deferred.ofValue, invoke, callFunc, h1, h2, h3]
  rw [if_neg (by simpa using h2), if_neg (fun e => by rw [e] at h3; simp at h3)]

theorem exA_ok (hm : Mem C.P w0 F ρ st w) {rd : Bool} {os ms kn : List Nat} (hobs : ∀ o ∈ os, ∃ ob, look st.ob o = some ob) (hrows : ∀ r ∈ ms ++ kn, ∃ row, look st.rw r = some row ∧ row.own = true) {v : Value} {s : SV} {ac : AC} (hv : svOk ρ st v s) (h : exA st os ms kn s = some ac) :
    acOk C.P w (fun b => some b ∈ os.map (oB st rd ρ) ++ (ms ++ kn).map fun r => (ρ.rs r).ownBlock) (os.map ρ.os) (ms.map ρ.rs) v ac := by
  have h1 : ∀ r ∈ kn, (idx kn r).isSome := fun r hr => idx_mem hr
  have h2 : ∀ r ∈ ms, (idx ms r).isSome := fun r hr => idx_mem hr
  unfold exA at h
  split at h
  · simp only [Option.map_eq_some_iff] at h
    obtain ⟨c, hc, rfl⟩ := h
    exact exA1_ok hm hobs hrows h1 h2 hv hc
  · simp only [Option.map_eq_some_iff] at h
    obtain ⟨cs, hc, rfl⟩ := h
    obtain ⟨vs, e, hvs⟩ := hv
    refine ⟨vs, e, All2.comp (t := acOk1 C.P w _ _ _) (fun x y z hx hy => ?_) hvs (mapM_opt hc)⟩
    exact exA1_ok hm hobs hrows h1 h2 hx hy
  · cases h

theorem exOC_ok (hm : Mem C.P w0 F ρ st w) {rd : Bool} {os ms kn : List Nat} (hobs : ∀ o ∈ os, ∃ ob, look st.ob o = some ob) (hrows : ∀ r ∈ ms ++ kn, ∃ row, look st.rw r = some row ∧ row.own = true) {v : Value} {c : SC} (hv : scOk ρ st v c) :
    ocOk C.P w (fun b => some b ∈ os.map (oB st rd ρ) ++ (ms ++ kn).map fun r => (ρ.rs r).ownBlock) (os.map ρ.os) v (exOC st os c) := by
  cases c with
  | val x => exact hv
  | ref r n =>
    simp only [exOC]
    split
    · rename_i row e1
      obtain ⟨A, m, c, e2, e3, hn⟩ := hv.2 row e1
      have hrow := hm.row r row e1
      split
      · rename_i e4
        have h2 := hrow.2
        rw [if_pos e4] at h2
        have h3 := h2.1
        rw [e2] at h3
        have hl : (row.xs.take n).length = n := by rw [List.length_take]; omega
        refine ⟨hrow.1, ?_⟩
        rw [e3]
        exact own_prefix hrow.1 h3 hn
      · rename_i e4
        have hrd := row_rd hrow
        rw [e2] at hrd
        rw [e3]
        refine ⟨hrow.1, rd_prefix hrow.1 hrd hn, fun hp b hb => ?_⟩
        have hl : (row.xs.take n).length = n := by rw [List.length_take]; omega
        refine not_in hm hrows e1 ?_ b ?_
        · intro hmem
          obtain ⟨row', e5, e6⟩ := hrows r hmem
          rw [e1] at e5; injection e5 with e5; subst e5
          exact e4 e6
        · unfold rblk
          rw [if_neg (fun e => by rw [hl] at hp; omega), e2, ← hb]
          cases A <;> rfl
    · trivial
  | ptr o off =>
    cases off with
    | zero =>
      simp only [exOC]
      split
      · rename_i k hk
        have hg := idx_get hk
        obtain ⟨ob, e⟩ := hobs o (List.mem_of_getElem? hg)
        exact ⟨ρ.os o, by rw [List.getElem?_map, hg]; rfl, hv.2 ob e⟩
      · trivial
    | succ _ => trivial
  | _ => trivial
theorem exOCr_ok (hm : Mem C.P w0 F ρ st w) {rd : Bool} {os ms kn : List Nat} (hobs : ∀ o ∈ os, ∃ ob, look st.ob o = some ob) (hrows : ∀ r ∈ ms ++ kn, ∃ row, look st.rw r = some row ∧ row.own = true) {v : Value} {c : SC} (hv : scOk ρ st v c) :
    ocOk C.P w (fun b => some b ∈ os.map (oB st rd ρ) ++ (ms ++ kn).map fun r => (ρ.rs r).ownBlock) (os.map ρ.os) v (exOCr st os (ms ++ kn) c) := by
  cases c with
  | val x => exact hv
  | ref r n =>
    simp only [exOCr]
    split
    · trivial
    · rename_i e0
      split
      · rename_i row e1
        obtain ⟨A, m, c, e2, e3, hn⟩ := hv.2 row e1
        have hrow := hm.row r row e1
        have hrd := row_rd hrow
        rw [e2] at hrd
        rw [e3]
        refine ⟨hrow.1, rd_prefix hrow.1 hrd hn, fun hp b hb => ?_⟩
        have hl : (row.xs.take n).length = n := by rw [List.length_take]; omega
        refine not_in hm hrows e1 ?_ b ?_
        · intro hmem
          have := idx_mem hmem
          rw [e0] at this; cases this
        · unfold rblk
          rw [if_neg (fun e => by rw [hl] at hp; omega), e2, ← hb]
          cases A <;> rfl
      · trivial
  | ptr o off =>
    cases off with
    | zero =>
      simp only [exOCr]
      split
      · rename_i k hk
        have hg := idx_get hk
        obtain ⟨ob, e⟩ := hobs o (List.mem_of_getElem? hg)
        exact ⟨ρ.os o, by rw [List.getElem?_map, hg]; rfl, hv.2 ob e⟩
      · trivial
    | succ _ => trivial
  | _ => trivial
theorem exCs_ok (hm : Mem C.P w0 F ρ st w) {rd : Bool} {os ms kn : List Nat} (hobs : ∀ o ∈ os, ∃ ob, look st.ob o = some ob) (hrows : ∀ r ∈ ms ++ kn, ∃ row, look st.rw r = some row ∧ row.own = true) (ob : Ob) : ∀ {vs : List Value}, All2 (scOk ρ st) vs ob.cs →
    All2 (ocOk C.P w (fun b => some b ∈ os.map (oB st rd ρ) ++ (ms ++ kn).map fun r => (ρ.rs r).ownBlock) (os.map ρ.os)) vs (exCs st rd os (ms ++ kn) ob) := by
  intro vs hvc
  have key : ∀ (f : SC → OC), (∀ v c, scOk ρ st v c → ocOk C.P w (fun b => some b ∈ os.map (oB st rd ρ) ++ (ms ++ kn).map fun r => (ρ.rs r).ownBlock) (os.map ρ.os) v (f c)) → All2 (ocOk C.P w (fun b => some b ∈ os.map (oB st rd ρ) ++ (ms ++ kn).map fun r => (ρ.rs r).ownBlock) (os.map ρ.os)) vs (ob.cs.map f) := by
    intro f hf
    revert hvc
    generalize ob.cs = cs
    intro hvc
    induction hvc with
    | nil => exact .nil
    | cons hx _ ih => exact .cons (hf _ _ hx) ih
  unfold exCs
  cases obOwn rd ob with
  | true => exact key _ fun v c hv => exOC_ok hm hobs hrows hv
  | false => exact key _ fun v c hv => exOCr_ok hm hobs hrows hv
theorem all3_of (hm : Mem C.P w0 F ρ st w) {rd : Bool} {os ms kn : List Nat} (hobs : ∀ o ∈ os, ∃ ob, look st.ob o = some ob) (hrows : ∀ r ∈ ms ++ kn, ∃ row, look st.rw r = some row ∧ row.own = true) : ∀ {l : List Nat} {cv : List (List Value)} {ho : List HO}, (∀ o ∈ l, o ∈ os) → All3 (fun g vs (h : HO) => w.heap[g]? = some (.cells vs.toArray h.T (0, 0))) (l.map ρ.os) cv ho →
    All3 (fun o vs (h : HO) => ∃ ob, look st.ob o = some ob ∧ h.own = obOwn rd ob ∧ h.ecs = exCs st rd os (ms ++ kn) ob ∧ All2 (scOk ρ st) vs ob.cs) l cv ho → All3 (objOk C.P w (fun b => some b ∈ os.map (oB st rd ρ) ++ (ms ++ kn).map fun r => (ρ.rs r).ownBlock) (os.map ρ.os)) (l.map ρ.os) cv ho
  | [], _, _, _, .nil, .nil => .nil
  | o :: _, _, _, hin, .cons h1 hr, .cons ⟨ob, e1, e0, e2, e3⟩ hr' => by
    refine .cons ⟨h1, by rw [e2]; exact exCs_ok hm hobs hrows ob e3, fun e => ?_⟩ (all3_of hm hobs hrows (fun o ho => hin o (by simp [ho])) hr hr')
    refine not_in_ob hm hrows e1 fun _ => ?_
    simp only [oB, e1]
    rw [← e0, e]; rfl

/-- **A call.** -/
theorem callP_ok (hC : C.Ok) (hG : GOk C w0 F) (h : Rel C.P w0 F G U nt ρ st a w) (hw : Wf st) {o : Oper} {c : Call} {x : Operand} {f : Nat} {os' : List Nat} {K : St → Prop} {Q : Exit → Act → World → Prop} (ho : o.op = .call c) (hc : c.callee = .value x) (hx : ev st x = .pv (.one (.clo f os'))) (hl : st.live (.clo f os') = true) (hd : dOk nt o.dst = true)
    (hp : callP C st f (c.args.toList.map (ev st) ++ os'.map fun o => .pv (.one (.ptr o 0))) fun st' s => K (st'.putD o.dst s)) :
    o.wp C.P a w (fun a' w' => ∃ st', K st' ∧ RW C.P w0 F G U nt st' a' w') Q := by
  have hv := ev_ok h x
  rw [hx] at hv
  have hfun := hv.2 fun o ho => (List.all_eq_true.1 hl) o ho
  have hargs : All2 (svOk ρ st) ((c.args.map a.eval ++ (os'.map fun o => Value.pointer (some ⟨ρ.os o, 0, none⟩)).toArray).toList) (c.args.toList.map (ev st) ++ os'.map fun o => .pv (.one (.ptr o 0))) := by
    rw [Array.toList_append, Array.toList_map, List.toList_toArray]
    refine (all2_ev h _).append ?_
    have : ∀ l : List Nat, (∀ o ∈ l, (look st.ob o).isSome) → (∀ o ∈ l, o < st.nx) → All2 (svOk ρ st) (l.map fun o => Value.pointer (some ⟨ρ.os o, 0, none⟩)) (l.map fun o => .pv (.one (.ptr o 0))) := by
      intro l
      induction l with
      | nil => intro _ _; exact .nil
      | cons q l ih => intro h1 h2; exact .cons ⟨h2 q (by simp), fun _ _ => rfl⟩ (ih (fun o ho => h1 o (by simp [ho])) (fun o ho => h2 o (by simp [ho])))
    exact this os' (fun o ho => (List.all_eq_true.1 hl) o ho) hv.1
  generalize hvs : c.args.toList.map (ev st) ++ os'.map (fun o => SV.pv (.one (.ptr o 0))) = svs at *
  unfold callP at hp
  rw [fNs_eq] at hp
  generalize reach st 40 (svsObs svs) [] = os at *
  split at hp
  · rename_i ms e1
    rw [fNs_eq, fNs_eq] at hp
    unfold callP1 at hp
    generalize hrd : C.rd f = rd at *
    split at hp
    · rename_i hoo hmr args e2 e3 e4
      split at hp
      · rename_i e5
        obtain ⟨Q, ⟨hen, hok⟩, hKQ⟩ := hp
        have hH : Hand st rd os ms hoo hmr := ⟨nodupB_ok e5.1, nodupB_ok e5.2, e2, e3⟩
        have hobs := exHO_some e2
        have hrows : ∀ r ∈ ms ++ exKn st rd os, ∃ row, look st.rw r = some row ∧ row.own = true := by
          intro r hr
          rcases List.mem_append.1 hr with h | h
          · exact exHM_some e3 r h
          · exact exKn_own h
        obtain ⟨cv, hc1, hc2, hc3, hc4⟩ := objs_cells h.mem rd os _ e2
        have hL : blks (gOwn (os.map ρ.os) hoo) (ms.map ρ.rs) (ownValsO cv (hoo.map HO.ecs)) = os.map (oB st rd ρ) ++ (ms ++ exKn st rd os).map fun r => (ρ.rs r).ownBlock := by
          unfold blks
          rw [hc3, hc4]; simp [List.map_map, Function.comp_def]
        have hrm : All2 (rowOwn C.P w) (ms.map ρ.rs) hmr := by
          have : ∀ {l : List Nat} {rs : List Row}, All2 (fun r row => look st.rw r = some row ∧ row.own = true) l rs → All2 (rowOwn C.P w) (l.map ρ.rs) rs := by
            intro l rs h2
            induction h2 with
            | nil => exact .nil
            | cons hx _ ih =>
              have h3 := h.mem.row _ _ hx.1
              have h4 := h3.2
              rw [if_pos hx.2] at h4
              exact .cons ⟨hx.2, h3.1, h4.1⟩ ih
          exact this (exHM_get e3)
        have hokL : ∀ b, some b ∈ os.map (oB st rd ρ) ++ (ms ++ exKn st rd os).map (fun r => (ρ.rs r).ownBlock) → okb w0 F b := by
          intro b hb
          rcases List.mem_append.1 hb with h1 | h1
          · obtain ⟨o, h1, e⟩ := List.mem_map.1 h1
            obtain ⟨ob, e1, e2, e3⟩ := oB_some e
            rw [← e3]
            exact (h.mem.ob o ob e1).1 e2
          · obtain ⟨r, h1, e⟩ := List.mem_map.1 h1
            obtain ⟨row, e1, e2⟩ := hrows r h1
            have := (h.mem.row r row e1).2
            rw [if_pos e2] at this
            exact this.2 b e
        have hcall := hok w _ (os.map ρ.os) cv (ms.map ρ.rs) (by
            rw [hL]
            exact ⟨hG.frm hC h.mem.frm, fun b hb => hG.okb hC (hokL b hb)⟩) (by
            rw [hL]
            exact All2.comp (s := fun x y => exA st os ms (exKn st rd os) x = some y) (t := acOk C.P w _ _ _) (fun x y z hx hy => exA_ok h.mem hobs hrows hx hy) hargs (mapO_ok (f := exA st os ms (exKn st rd os)) e4)) (by
            rw [hL]
            exact all3_of h.mem hobs hrows (fun o ho => ho) hc1 hc2) hrm (by rw [hL]; exact ex_apart h.mem hH.nd hH.nd2 hrows)
        have hrun := run_callF (w := w) ho hc hfun hen
        simp only [Oper.wp, hrun, Oper.upon]
        rw [Array.toArray_toList] at hcall
        refine hcall.mono fun e w' hpost => ?_
        obtain ⟨res, ho', hm', hq, rv, cv', rfl, h1, h2, h3, h4, h5, h6, h7, h8, h9, h10⟩ := hpost
        have hK := hKQ res ho' hm' hq
        simp only [fV_eq, fSt_eq] at hK
        obtain ⟨hmem, hat⟩ := h.mem.back hH hc2 hc3 hc4 h10 rfl rfl h1 h2 h3 h4 h5 h6 h7 h8 h9
        have hl' : (ownValsO cv' (ho'.map HO.ecs) ++ ownValsR rv res).length = (ownRowsO ho' ++ ownRowsRs res).length := hat.1
        have hsc : ∀ v c, scOk ρ st v c → scOk (ρ.back st.nx (ownValsO cv' (ho'.map HO.ecs) ++ ownValsR rv res)) (st.back rd os ms ho' hm' res) v c := fun v c hh => back_sc h.mem hl' hH h5 h6 hrows hh
        have hor := ownValsO_rows h2
        have hN := Names.back h.mem hl' hobs hrows h4
        have hres := imRs_ok hN h1 (hat.right hor.length)
        have hpo : st.pr.map (ρ.back st.nx (ownValsO cv' (ho'.map HO.ecs) ++ ownValsR rv res)).rs = st.pr.map ρ.rs := by
          apply List.map_congr_left
          intro r hr
          have := hw.2 r hr
          simp [Rho.back, this]
        refine ⟨_, hK, (hw.mono (st' := st.back rd os ms ho' hm' res) rfl rfl (Nat.le_add_right _ _)).putD _ _, _, h.next hmem rfl hsc rfl rfl rfl hpo o.dst _ _ (pack_ok hres) hd⟩
      · cases hp
    · cases hp
  · cases hp
end
end Go.Proofs.Ytjmhffbenbiieaa.Ev
