/- Part 25: regions in any order, whose operations read or make new things: what each operation leaves. -/
import Derived.Test.YtjmhffbenbiieaaEv19
set_option linter.unusedVariables false
set_option linter.unusedSimpArgs false
namespace Go.Proofs.Ytjmhffbenbiieaa.Ev
open Go.RowKit

/-! ### 1. What operations leave -/
structure Add where
  d : Option Nat
  s : SV
  rw : List (Nat × Row)
  ob : List (Nat × Ob)
/-- Operation i: what surely comes ahead of it, its names, what it leaves. -/
structure Ent where
  i : Nat
  ps : List Nat
  lo : Nat
  hi : Nat
  add : Add
def Ent.sl (e : Ent) : List (Nat × SV) := match e.add.d with
  | some t => [(t, e.add.s)]
  | none => []
def adSl : List Ent → List (Nat × SV)
  | [] => []
  | e :: r => e.sl ++ adSl r
def adRw : List Ent → List (Nat × Row)
  | [] => []
  | e :: r => e.add.rw ++ adRw r
def adOb : List Ent → List (Nat × Ob)
  | [] => []
  | e :: r => e.add.ob ++ adOb r
def pickE : List Ent → List Nat → List Ent
  | [], _ => []
  | e :: r, ps => if memB ps e.i = true then e :: pickE r ps else pickE r ps
abbrev Kn := List (Nat × Nat × Bool)
def kSl : Kn → List Nat → List (Nat × SV)
  | [], _ => []
  | (g, t, b) :: r, ps => if memB ps g = true then (t, .pv (.one (.val (.bool b)))) :: kSl r ps else kSl r ps
def kAll : Kn → List (Nat × SV)
  | [] => []
  | (_, t, b) :: r => (t, .pv (.one (.val (.bool b)))) :: kAll r
def roR : List (Nat × Row) → List (Nat × Row)
  | [] => []
  | (r, row) :: l => (r, { row with own := false }) :: roR l
def roO : List (Nat × Ob) → List (Nat × Ob)
  | [] => []
  | (o, ob) :: l => (o, { ob with own := false }) :: roO l
/-- The state that an operation may lean on: all in it is only read, all names are pinned. -/
def small (st0 : St) (es : List Ent) (ps : List Nat) (kn : Kn) (n : Nat) : St where
  sl := kSl kn ps ++ (adSl (pickE es ps) ++ st0.sl)
  rw := roR (adRw (pickE es ps) ++ st0.rw)
  ob := roO (adOb (pickE es ps) ++ st0.ob)
  nx := n
  po := List.range n
  pr := List.range n
def full (st0 : St) (es : List Ent) (n : Nat) : St := { st0 with sl := adSl es ++ st0.sl, rw := adRw es ++ st0.rw, ob := adOb es ++ st0.ob, nx := n }
def fullK (st0 : St) (es : List Ent) (kn : Kn) (n : Nat) : St := { st0 with sl := kAll kn ++ (adSl es ++ st0.sl), rw := adRw es ++ st0.rw, ob := adOb es ++ st0.ob, nx := n }
def newR (n : Nat) : List (Nat × Row) → List (Nat × Row)
  | [] => []
  | (r, row) :: l => match Nat.ble n r with
    | true => (r, row) :: newR n l
    | false => newR n l
def newO (n : Nat) : List (Nat × Ob) → List (Nat × Ob)
  | [] => []
  | (r, row) :: l => match Nat.ble n r with
    | true => (r, row) :: newO n l
    | false => newO n l
def addOf (n : Nat) (o : Oper) (st' : St) : Add := ⟨o.dst, match o.dst with
  | some t => ev st' (.tmp t)
  | none => .pv (.one .undef), newR n st'.rw, newO n st'.ob⟩
def liveC (st : St) : SC → Bool
  | .val _ => true
  | .undef => true
  | c => st.live c
def liveP (st : St) : PV → Bool
  | .one c => liveC st c
  | .agg cs => cs.all (liveC st)
def liveV (st : St) : SV → Bool
  | .pv p => liveP st p
  | .tup ps => ps.all (liveP st)
def okRs (m : Nat) : List (Nat × Row) → Bool
  | [] => true
  | (r, row) :: l => match row.own with
    | true => match Nat.ble m r with
      | true => false
      | false => okRs m l
    | false => false
def okOs (st' : St) (m : Nat) : List (Nat × Ob) → Bool
  | [] => true
  | (r, ob) :: l => match ob.own with
    | true => match Nat.ble m r with
      | true => false
      | false => match ob.cs.all (liveC st') with
        | true => okOs st' m l
        | false => false
    | false => false
/-- What st' has under old names it had before. -/
def oldR (n : Nat) (old : List (Nat × Row)) : List (Nat × Row) → Bool
  | [] => true
  | (r, row) :: l => match Nat.ble n r with
    | true => oldR n old l
    | false => match look old r with
      | some row' => match Nat.beq row.el.sz row'.el.sz with
        | true => oldR n old l
        | false => false
      | none => false
def oldO (n : Nat) (old : List (Nat × Ob)) : List (Nat × Ob) → Bool
  | [] => true
  | (r, ob) :: l => match Nat.ble n r with
    | true => oldO n old l
    | false => match look old r with
      | some _ => oldO n old l
      | none => false
def addOk (st : St) (n : Nat) (o : Oper) (st' : St) : Bool := match oldR n st.rw st'.rw && oldO n st.ob st'.ob && Nat.ble n st'.nx with
  | true => match okRs st'.nx (newR n st'.rw) with
    | true => match okOs st' st'.nx (newO n st'.ob) with
      | true => match o.dst with
        | some t => liveV st' (ev st' (.tmp t))
        | none => true
      | false => false
    | false => false
  | false => false

/-! ### 2. One operation -/
structure CallE (C : Cx) (f : Nat) (args : List AC) (ho : List HO) (hm : List Row) (K : List RC → List HO → List Row → Prop) : Prop where
  ok : ∃ res ho' hm', Ok C f args ho hm res ho' hm' ∧ K res ho' hm'
theorem CallE.of {C : Cx} {f : Nat} {args : List AC} {ho : List HO} {hm : List Row} {K : List RC → List HO → List Row → Prop} {res : List RC} {ho' : List HO} {hm' : List Row} (h : Ok C f args ho hm res ho' hm') (k : K res ho' hm') : CallE C f args ho hm K := ⟨res, ho', hm', h, k⟩
theorem CallE.at {C : Cx} {f : Nat} {args args0 : List AC} {ho ho0 : List HO} {hm hm0 : List Row} {K : List RC → List HO → List Row → Prop} {res : List RC} {ho' : List HO} {hm' : List Row} (h : Ok C f args0 ho0 hm0 res ho' hm') (k : K res ho' hm') (e1 : args = args0 := by first | rfl | (simp; done)) (e2 : ho = ho0 := by first | rfl | (simp; done)) (e3 : hm = hm0 := by first | rfl | (simp; done)) : CallE C f args ho hm K := by
  subst e1; subst e2; subst e3; exact CallE.of h k
def callE1 (C : Cx) (st : St) (f : Nat) (svs : List SV) (os ms kn : List Nat) (K : St → SV → Prop) : Prop :=
  match exHO st (C.rd f) os (ms ++ kn) os, exHM st ms, mapO (exA st os ms kn) svs with
  | some ho, some hm, some args => if nodupB os = true ∧ nodupB (ms ++ kn) = true then
      CallE C f args ho hm (fun res ho' hm' => fV (st.backV os ms ho' res) fun s => fSt (st.back (C.rd f) os ms ho' hm' res) fun st' => K st' s) else False
  | _, _, _ => False
def callE (C : Cx) (st : St) (f : Nat) (svs : List SV) (K : St → SV → Prop) : Prop :=
  fNs (reach st 40 (svsObs svs) []) fun os => match mapO (fun p => (svs[p]?).bind rowOf) (C.mu f) with
  | some ms => fNs ms fun ms => fNs (exKn st (C.rd f) os) fun kn => callE1 C st f svs os ms kn K
  | none => False
theorem callE_ok {C : Cx} {st : St} {f : Nat} {svs : List SV} {K : St → SV → Prop} (h : callE C st f svs K) : ∃ st' s, K st' s ∧ (∀ K' : St → SV → Prop, K' st' s → callP C st f svs K') ∧ st'.po = st.po ∧ st'.pr = st.pr := by
  unfold callE at h
  rw [fNs_eq] at h
  split at h
  · rename_i ms e1
    rw [fNs_eq, fNs_eq] at h
    unfold callE1 at h
    split at h
    · rename_i ho hm args e2 e3 e4
      split at h
      · rename_i e5
        obtain ⟨res, ho', hm', h1, hK⟩ := h.ok
        simp only [fV_eq, fSt_eq] at hK
        refine ⟨_, _, hK, fun K' hK' => ?_, rfl, rfl⟩
        unfold callP
        rw [fNs_eq]
        simp only [e1]
        rw [fNs_eq, fNs_eq]
        unfold callP1
        simp only [e2, e3, e4]
        rw [if_pos e5]
        exact CallG.of h1 (by simp only [fV_eq, fSt_eq]; exact hK')
      · cases h
    · cases h
  · cases h
def growP (C : Cx) (nt : Nat) (st : St) (o : Oper) (K : St → Prop) : Prop :=
  if dOk nt o.dst = true then
    match o.op with
    | .alloc T => match C.lay T with
      | some l => K ((st.newOb ⟨T, l.zero.map .val, true⟩).putD o.dst (.pv (.one (.ptr st.nx 0))))
      | none => False
    | .box T x => match st.cells (ev st x) with
      | some cs => K ((st.newOb ⟨T, cs, true⟩).putD o.dst (.pv (.one (.ptr st.nx 0))))
      | none => False
    | .buildSlice T n parts => match C.lay T with
      | some (.sl E) => match C.el E with
        | some el => match partsOf st el parts.toList (List.replicate n el.zero) with
          | some xs => if xs.length = n ∧ n * el.sz ≤ 16777216 then K ((st.newRow ⟨true, el, xs⟩).putD o.dst (.pv (.one (.ref st.nx n)))) else False
          | none => False
        | none => False
      | _ => False
    | .makeSlice T x y => match C.lay T, (ev st x).int?, (ev st y).int? with
      | some (.sl E), some n, some m => match C.el E with
        | some el => Bnd (m = n) (0 ≤ n ∧ n.toNat * el.bytes ≤ 281474976710656) (K ((st.newRow ⟨true, el, List.replicate n.toNat el.zero⟩).putD o.dst (.pv (.one (.ref st.nx n.toNat)))))
        | none => False
      | _, _, _ => False
    | .call c => match c.callee with
      | .value x => match ev st x with
        | .pv (.one (.clo f os)) => if st.live (.clo f os) = true then
            callE C st f (c.args.toList.map (ev st) ++ os.map fun o => .pv (.one (.ptr o 0))) fun st' s => K (st'.putD o.dst s) else False
        | _ => False
      | _ => readP C st o fun s => K (st.putD o.dst s)
    | _ => readP C st o fun s => K (st.putD o.dst s)
  else False

/-- Wherever the state is so, o leads to st'. -/
def Leads (C : Cx) (nt : Nat) (st : St) (o : Oper) (st' : St) : Prop := ∀ (w0 : World) (F : Nat → Prop) (G : List Nat) (U : List Value) (ρ : Rho) (a : Act) (w : World), GOk C w0 F → Rel C.P w0 F G U nt ρ st a w → Wf st →
  o.wp C.P a w (fun a' w' => RW C.P w0 F G U nt st' a' w') fun _ _ _ => False
theorem Leads.does {C : Cx} {nt : Nat} {st st' : St} {o : Oper} (hw : Wf st → Wf st') (h : ∀ (w0 : World) (F : Nat → Prop) (G : List Nat) (U : List Value) (ρ : Rho) (a : Act) (w : World), Rel C.P w0 F G U nt ρ st a w → Wf st → Does C o a w (RR C w0 F G U nt st')) : Leads C nt st o st' := by
  intro w0 F G U ρ a w hG hr hwf
  exact Oper.wp_mono (fun a' w' hh => ⟨hw hwf, hh⟩) (h w0 F G U ρ a w hr hwf).wp
theorem growP_ok {C : Cx} (hC : C.Ok) {nt : Nat} {st : St} {o : Oper} {K : St → Prop} (hp : growP C nt st o K) : ∃ st', K st' ∧ Leads C nt st o st' ∧ st'.po = st.po ∧ st'.pr = st.pr := by
  unfold growP at hp
  split at hp
  rotate_left
  · cases hp
  rename_i hd
  have hread : readP C st o (fun s => K (st.putD o.dst s)) → ∃ st', K st' ∧ Leads C nt st o st' ∧ st'.po = st.po ∧ st'.pr = st.pr := by
    intro hp
    obtain ⟨s, h1, hK⟩ := readP_ok hC hp
    exact ⟨_, hK, .does (fun hw => hw.putD _ _) fun _ _ _ _ _ _ _ hr _ => (h1 _ _ _ _ _ _ _ _ hr).does hr hd, putD_po _ _, putD_pr _ _⟩
  split at hp
  · rename_i T ho
    split at hp
    · rename_i l e1
      exact ⟨_, hp, .does (fun hw => (hw.mono (by rfl) (by rfl) (by simp [St.newOb])).putD _ _) fun _ _ _ _ _ _ _ hr hw => does_alloc hC hr hw.1 ho e1 hd, putD_po _ _, putD_pr _ _⟩
    · cases hp
  · rename_i T x ho
    split at hp
    · rename_i cs e1
      exact ⟨_, hp, .does (fun hw => (hw.mono (by rfl) (by rfl) (by simp [St.newOb])).putD _ _) fun _ _ _ _ _ _ _ hr hw => does_box hr hw.1 ho e1 hd, putD_po _ _, putD_pr _ _⟩
    · cases hp
  · rename_i T n parts ho
    split at hp
    · rename_i E e1
      split at hp
      · rename_i el e2
        split at hp
        · rename_i xs e3
          split at hp
          · rename_i e4
            exact ⟨_, hp, .does (fun hw => (hw.mono (by rfl) (by rfl) (by simp [St.newRow])).putD _ _) fun _ _ _ _ _ _ _ hr hw => does_buildSlice hC hr hw.2 ho e1 e2 e3 e4.1 e4.2 hd, putD_po _ _, putD_pr _ _⟩
          · cases hp
        · cases hp
      · cases hp
    · cases hp
  · rename_i T x y ho
    split at hp
    · rename_i E n m e1 e2 e3
      split at hp
      · rename_i el e4
        obtain ⟨rfl, ⟨h0, h1⟩, hK⟩ := hp
        exact ⟨_, hK, .does (fun hw => (hw.mono (by rfl) (by rfl) (by simp [St.newRow])).putD _ _) fun _ _ _ _ _ _ _ hr hw => does_makeSlice hC hr hw.2 ho e1 e4 e2 e3 h0 h1 hd, putD_po _ _, putD_pr _ _⟩
      · cases hp
    · cases hp
  · rename_i c ho
    split at hp
    · rename_i x e1
      split at hp
      · rename_i f os e2
        split at hp
        · rename_i e3
          obtain ⟨st', s, hK, hcall, hpo, hpr⟩ := callE_ok hp
          refine ⟨_, hK, ?_, by rw [putD_po]; exact hpo, by rw [putD_pr]; exact hpr⟩
          exact (fun w0 F G U ρ a w hG hr hw => by
          have := callP_ok (K := fun q => q = st'.putD o.dst s) (Q := fun _ _ _ => False) hC hG hr hw ho e1 e2 e3 hd (hcall _ rfl)
          exact Oper.wp_mono (fun a' w' ⟨_, e, hh⟩ => by rw [e] at hh; exact hh) this)
        · cases hp
      · cases hp
    · exact hread hp
  · exact hread hp

/-! ### 3. The region's operations, in one order -/
def psOf : List Ent → Nat → List Nat
  | [], _ => []
  | e :: r, i => if e.i = i then e.ps else psOf r i
def insN (l : List Nat) (x : Nat) : List Nat := match memB l x with
  | true => l
  | false => x :: l
def insAll (l : List Nat) : List Nat → List Nat
  | [] => l
  | x :: r => insAll (insN l x) r
def predsL (es : List Ent) (acc : List Nat) : List Edge → List Nat
  | [] => acc
  | e :: r => match Region.binds .any e with
    | true => predsL es (insAll (insN acc e.on) (psOf es e.on)) r
    | false => predsL es acc r
def insAllF : List Nat → List Nat → (List Nat → Prop) → Prop
  | l, [], K => K l
  | l, x :: r, K => fNs (insN l x) fun l' => insAllF l' r K
theorem insAllF_eq : ∀ (l r : List Nat) (K : List Nat → Prop), insAllF l r K = K (insAll l r)
  | l, [], K => rfl
  | l, x :: r, K => by simp only [insAllF, insAll, fNs_eq, insAllF_eq]
def predsF (es : List Ent) : List Nat → List Edge → (List Nat → Prop) → Prop
  | acc, [], K => K acc
  | acc, e :: r, K => match Region.binds .any e with
    | true => fNs (insN acc e.on) fun a => fNs (psOf es e.on) fun p => insAllF a p fun a' => predsF es a' r K
    | false => predsF es acc r K
theorem predsF_eq (es : List Ent) : ∀ (acc : List Nat) (l : List Edge) (K : List Nat → Prop), predsF es acc l K = K (predsL es acc l)
  | acc, [], K => rfl
  | acc, e :: r, K => by
    simp only [predsF, predsL]
    cases Region.binds .any e with
    | true => simp only [fNs_eq, insAllF_eq, predsF_eq]
    | false => simp only [predsF_eq]
def knows : Kn → Nat → Option Bool
  | [], _ => none
  | (g', _, b) :: r, g => if g' = g then some b else knows r g
def findE : List Ent → Nat → Option Ent
  | [], _ => none
  | e :: r, i => if e.i = i then some e else findE r i
/-- The guard of an operation. -/
def gD (ops : List Oper) (es : List Ent) (ps : List Nat) (o : Oper) (kn : Kn) (K : Bool → Kn → Prop) : Prop :=
  match o.guard with
  | none => K true kn
  | some (g, want) => match memB ps g, findE es g, (ops[g]?).bind (·.dst) with
    | true, some x, some t => match x.add.d, x.add.s with
      | some t', .pv (.one (.val (.bool b))) => match Nat.beq t' t with
        | true => match knows kn g with
          | some b' => match b', want with
            | true, true => K true kn
            | false, false => K true kn
            | true, false => K false kn
            | false, true => K false kn
          | none => Two b (K want ((g, t, true) :: kn)) (K (!want) ((g, t, false) :: kn))
        | false => False
      | _, _ => False
    | _, _, _ => False
def fAdd : Add → (Add → Prop) → Prop
  | ⟨d, s, rw, ob⟩, K => fV s fun s => fRw rw fun rw => fOb ob fun ob => K ⟨d, s, rw, ob⟩
theorem fAdd_eq (a : Add) (K : Add → Prop) : fAdd a K = K a := by cases a; simp only [fAdd, fV_eq, fRw_eq, fOb_eq]
def fEs : List Ent → (List Ent → Prop) → Prop
  | [], K => K []
  | e :: r, K => fEs r fun r => K (e :: r)
theorem fEs_eq : ∀ (l : List Ent) (K : List Ent → Prop), fEs l K = K l
  | [], K => rfl
  | x :: r, K => by simp only [fEs, fEs_eq r]
def vcD (C : Cx) (nt : Nat) (ops : List Oper) (st0 : St) : List Nat → List Ent → Kn → Nat → (St → Prop) → Prop
  | [], es, kn, n, K => fSt (fullK st0 es kn n) K
  | i :: rest, es, kn, n, K => match ops[i]? with
    | none => False
    | some o => predsF es [] o.after.toList fun ps => gD ops es ps o kn fun b kn' => match b with
      | true => fSt (small st0 es ps kn' n) fun sm => growP C nt sm o fun st' => match addOk sm n o st' with
        | true => fU st'.nx fun m => fAdd (addOf n o st') fun add => fEs (es ++ [⟨i, ps, n, m, add⟩]) fun es' => vcD C nt ops st0 rest es' kn' m K
        | false => False
      | false => if dOk nt o.dst = true then fEs (es ++ [⟨i, ps, n, n, ⟨o.dst, .pv (.one (.val undef)), [], []⟩⟩]) fun es' => vcD C nt ops st0 rest es' kn' n K else False
end Go.Proofs.Ytjmhffbenbiieaa.Ev
