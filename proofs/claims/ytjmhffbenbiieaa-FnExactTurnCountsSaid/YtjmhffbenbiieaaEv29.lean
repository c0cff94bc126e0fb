/- Part 29: regions in any order: the region. -/
import Derived.Test.YtjmhffbenbiieaaEv28
set_option linter.unusedVariables false
set_option linter.unusedSimpArgs false
namespace Go.Proofs.Ytjmhffbenbiieaa.Ev
open Go.RowKit

/-! ### 1. What is asked of the region's text -/
def afterL : List Edge → List Nat
  | [] => []
  | e :: r => match Region.binds .any e with
    | true => e.on :: afterL r
    | false => afterL r
def afterOf (ops : List Oper) (i : Nat) : List Nat := match ops[i]? with
  | some o => afterL o.after.toList
  | none => []
def subB (xs ys : List Nat) : Bool := xs.all (memB ys)
def ordB (ops : List Oper) : List Nat → List Nat → Bool
  | _, [] => true
  | done, i :: r => subB (afterOf ops i) done && ordB ops (i :: done) r
def copyB (o : Oper) : Bool := o.guard.isNone && match o.op with
  | .move _ => true
  | .assign _ => true
  | .extract _ _ => true
  | _ => false
def floatB (ops : Array Oper) (l : List Nat) (f : Nat) : Bool := match ops[f]? with
  | some o => copyB o && l.all fun j => Nat.beq j f || memB (afterOf ops.toList j) f || match ops[j]? with
    | some oj => o.apart ops oj
    | none => true
  | none => false
def dstOf (ops : List Oper) (i : Nat) : Option Nat := (ops[i]?).bind (·.dst)
def dstsOf (ops : List Oper) : List Nat → List Nat
  | [] => []
  | i :: r => match dstOf ops i with
    | some t => t :: dstsOf ops r
    | none => dstsOf ops r
def seqB (ops : Array Oper) : List Nat → Array Bool → Bool
  | [], listed => (Region.ready .any ops listed).isEmpty
  | t :: r, listed => (Region.ready .any ops listed == [t]) && seqB ops r (listed.setIfInBounds t true)
def markL : Array Bool → List Nat → Array Bool
  | l, [] => l
  | l, i :: r => markL (l.setIfInBounds i true) r
def regOk (ops : Array Oper) (bs fs tl : List Nat) : Bool :=
  nodupB (bs ++ fs ++ tl) && (Nat.beq (bs ++ fs ++ tl).length ops.size && ((bs ++ fs ++ tl).all (fun i => Nat.blt i ops.size) && (ordB ops.toList [] (bs ++ fs) && (fs.all (floatB ops (fs ++ tl)) &&
    (tl.all (fun t => bs.all (memB (afterOf ops.toList t)) || tl.any (memB (afterOf ops.toList t))) && (nodupB (dstsOf ops.toList (bs ++ fs)) && (Region.noSelect ops && seqB ops tl (markL (Array.replicate ops.size false) (bs ++ fs)))))))))
def opsAt (ops : List Oper) : List Nat → List Oper
  | [] => []
  | t :: r => match ops[t]? with
    | some o => o :: opsAt ops r
    | none => opsAt ops r
def loseSl : List (Nat × SV) → List Nat → List (Nat × SV)
  | [], _ => []
  | (t, s) :: r, ds => match memB ds t with
    | true => loseSl r ds
    | false => (t, s) :: loseSl r ds
def St.lose (st : St) (ds : List Nat) : St := { st with sl := loseSl st.sl ds }
structure RegD (C : Cx) (nt : Nat) (ops : Array Oper) (st : St) (K : St → Prop) : Prop where
  ok : ∃ bs fs tl, regOk ops bs fs tl = true ∧ vcD C nt ops.toList (st.lose (dstsOf ops.toList (bs ++ fs))) (bs ++ fs) [] [] st.nx fun st' => vcOps C nt ops.toList (opsAt ops.toList tl) [] st' K
theorem RegD.of {C : Cx} {nt : Nat} {ops : Array Oper} {st : St} {K : St → Prop} (bs fs tl : List Nat) (h : regOk ops bs fs tl = true) (h2 : fSt (st.lose (dstsOf ops.toList (bs ++ fs))) fun st0 => vcD C nt ops.toList st0 (bs ++ fs) [] [] st0.nx fun st' => vcOps C nt ops.toList (opsAt ops.toList tl) [] st' K) : RegD C nt ops st K := by
  rw [fSt_eq] at h2; exact ⟨bs, fs, tl, h, h2⟩

theorem memB_iff {l : List Nat} {x : Nat} : memB l x = true ↔ x ∈ l := by
  constructor
  · intro h
    apply Classical.byContradiction
    intro hn
    have : memB l x = false := by
      clear h
      induction l with
      | nil => rfl
      | cons y r ih =>
        simp only [List.mem_cons, not_or] at hn
        simp only [memB]
        rw [if_neg (fun e => hn.1 e.symm)]
        exact ih hn.2
    rw [this] at h; cases h
  · intro h
    cases e : memB l x with
    | true => rfl
    | false => exact absurd h (memB_ok e)
theorem afterL_mem : ∀ {l : List Edge} {j : Nat}, j ∈ afterL l ↔ ∃ e ∈ l, Region.binds .any e = true ∧ e.on = j
  | [], j => by simp [afterL]
  | e :: r, j => by
    have ih := afterL_mem (l := r) (j := j)
    simp only [afterL]
    split
    · rename_i h
      simp only [List.mem_cons, ih]
      constructor
      · rintro (rfl | ⟨e', h1, h2⟩)
        · exact ⟨e, .inl rfl, h, rfl⟩
        · exact ⟨e', .inr h1, h2⟩
      · rintro ⟨e', rfl | h1, h2, h3⟩
        · exact .inl h3.symm
        · exact .inr ⟨e', h1, h2, h3⟩
    · rename_i h
      simp only [ih, List.mem_cons]
      constructor
      · rintro ⟨e', h1, h2⟩; exact ⟨e', .inr h1, h2⟩
      · rintro ⟨e', rfl | h1, h2, h3⟩
        · rw [h] at h2; cases h2
        · exact ⟨e', h1, h2, h3⟩
theorem look_lose : ∀ {l : List (Nat × SV)} {ds : List Nat} {t : Nat}, look (loseSl l ds) t = if t ∈ ds then none else look l t
  | [], ds, t => by simp [loseSl, look]
  | (s, v) :: r, ds, t => by
    have ih := look_lose (l := r) (ds := ds) (t := t)
    simp only [loseSl, look]
    cases hm : memB ds s with
    | true =>
      have := memB_iff.1 hm
      simp only [ih]
      by_cases h : s = t
      · subst h; simp [this]
      · simp [h]
    | false =>
      have := memB_ok hm
      simp only [look, ih]
      by_cases h : s = t
      · subst h; simp [this]
      · simp [h]

/-! ### 2. Lists that are listed -/
section
variable {C : Cx} {w0 : World} {F : Nat → Prop} {G : List Nat} {U : List Value} {nt : Nat} {st0 : St} {es : List Ent} {n : Nat} {ρ : Rho} {a : Act} {w : World} {ops : Array Oper}

theorem set_getD {listed : Array Bool} {i : Nat} (hi : i < listed.size) (j : Nat) : (listed.setIfInBounds i true).getD j false = true ↔ listed.getD j false = true ∨ j = i := by
  by_cases h : i = j
  · subst h; simp [hi]
  · rw [getD_set_ne false h]
    constructor
    · exact .inl
    · rintro (h1 | h1)
      · exact h1
      · exact absurd h1.symm h
theorem getD_tf {listed : Array Bool} {j : Nat} (hj : j < listed.size) : listed.getD j true = listed.getD j false := by
  simp [Array.getD_eq_getD_getElem?, hj]
theorem filter_less {l : List Nat} (hn : l.Nodup) {D D' : Nat → Bool} {i : Nat} (hi : i ∈ l) (hD : D i = false) (hD' : ∀ j, D' j = true ↔ D j = true ∨ j = i) : (l.filter fun j => !D' j).length + 1 = (l.filter fun j => !D j).length := by
  induction l with
  | nil => cases hi
  | cons x r ih =>
    simp only [List.nodup_cons] at hn
    have same : ∀ m : List Nat, i ∉ m → m.filter (fun j => !D' j) = m.filter fun j => !D j := by
      intro m hm
      apply List.filter_congr
      intro j hj
      have : j ≠ i := fun e => hm (e ▸ hj)
      have h2 := hD' j
      cases h3 : D' j <;> cases h4 : D j <;> simp_all
    by_cases hx : x = i
    · subst hx
      have h1 : D' x = true := (hD' x).2 (.inr rfl)
      simp [List.filter_cons, h1, hD, same r hn.1]
    · have hr : i ∈ r := by rcases List.mem_cons.1 hi with h | h; · exact absurd h.symm hx
                            · exact h
      have ih := ih hn.2 hr
      have : D' x = D x := by
        have h2 := hD' x
        cases h3 : D' x <;> cases h4 : D x <;> simp_all
      simp only [List.filter_cons, this]
      split
      · simp only [List.length_cons]; omega
      · exact ih
theorem nodup_lt_len : ∀ (n : Nat) (l : List Nat), l.Nodup → (∀ x ∈ l, x < n) → l.length ≤ n
  | 0, l, _, h => by
    cases l with
    | nil => exact Nat.le_refl _
    | cons x r => have := h x (by simp); omega
  | n + 1, l, hn, h => by
    by_cases hm : n ∈ l
    · have h1 := filter_less hn (D := fun _ => false) (D' := fun j => decide (j = n)) hm rfl (fun j => by simp)
      have h2 := nodup_lt_len n (l.filter fun j => !decide (j = n)) (hn.filter _) fun x hx => by
        have := h x (List.mem_filter.1 hx).1
        have h3 := (List.mem_filter.1 hx).2
        simp at h3; omega
      have e : (l.filter fun j => !(fun _ => false : Nat → Bool) j) = l := List.filter_eq_self.2 (by simp)
      rw [e] at h1
      omega
    · have := nodup_lt_len n l hn fun x hx => by
        have h1 := h x hx
        have : x ≠ n := fun e => hm (e ▸ hx)
        omega
      omega
/-- The first operation that has not been done: what comes ahead of it has been. -/
theorem first_free {ops : List Oper} {D : Nat → Bool} : ∀ {l done : List Nat}, ordB ops done l = true → (∀ j ∈ done, D j = true) → (∃ i ∈ l, D i = false) → ∃ i ∈ l, D i = false ∧ (∀ j ∈ afterOf ops i, D j = true) ∧ ∃ l1 l2, l = l1 ++ i :: l2 ∧ ∀ j ∈ l1, D j = true
  | [], done, _, _, h => by obtain ⟨i, hi, _⟩ := h; cases hi
  | x :: r, done, ho, hd, h => by
    simp only [ordB, Bool.and_eq_true] at ho
    cases hx : D x with
    | false => exact ⟨x, by simp, hx, fun j hj => hd j (memB_iff.1 (List.all_eq_true.1 ho.1 j hj)), [], r, rfl, by simp⟩
    | true =>
      obtain ⟨i, h1, h2, h3, l1, l2, h4, h5⟩ := first_free (l := r) (done := x :: done) ho.2 (fun j hj => by
        rcases List.mem_cons.1 hj with rfl | hj
        · exact hx
        · exact hd j hj) (by
        obtain ⟨i, hi, hi2⟩ := h
        rcases List.mem_cons.1 hi with e | hi
        · rw [e, hx] at hi2; cases hi2
        · exact ⟨i, hi, hi2⟩)
      exact ⟨i, by simp [h1], h2, h3, x :: l1, l2, by rw [h4]; rfl, fun j hj => by
        rcases List.mem_cons.1 hj with rfl | hj
        · exact hx
        · exact h5 j hj⟩
theorem psOf_mem : ∀ {es : List Ent} {i j : Nat}, j ∈ psOf es i → ∃ e ∈ es, e.i = i ∧ j ∈ e.ps
  | [], i, j, h => by cases h
  | e :: r, i, j, h => by
    simp only [psOf] at h
    split at h
    · rename_i h1; exact ⟨e, by simp, h1, h⟩
    · obtain ⟨e', h1, h2⟩ := psOf_mem h; exact ⟨e', by simp [h1], h2⟩
theorem insN_mem {l : List Nat} {x j : Nat} : j ∈ insN l x → j ∈ l ∨ j = x := by
  unfold insN
  split
  · exact .inl
  · intro h; rcases List.mem_cons.1 h with h | h
    · exact .inr h
    · exact .inl h
theorem insAll_mem : ∀ {r l : List Nat} {j : Nat}, j ∈ insAll l r → j ∈ l ∨ j ∈ r
  | [], l, j, h => .inl h
  | x :: r, l, j, h => by
    rcases insAll_mem (r := r) h with h | h
    · rcases insN_mem h with h | h
      · exact .inl h
      · exact .inr (by simp [h])
    · exact .inr (by simp [h])
theorem predsL_sub {pre : List Ent} {D : Nat → Bool} : ∀ {l : List Edge} {acc : List Nat}, (∀ j ∈ afterL l, D j = true) → (∀ e ∈ pre, D e.i = true → ∀ j ∈ e.ps, D j = true) → (∀ j ∈ acc, D j = true) → ∀ j ∈ predsL pre acc l, D j = true
  | [], acc, _, _, h3 => h3
  | e :: r, acc, h1, h2, h3 => by
    simp only [predsL]
    split
    · rename_i hb
      have h0 : D e.on = true := h1 _ (afterL_mem.2 ⟨e, by simp, hb, rfl⟩)
      refine predsL_sub (fun j hj => h1 j ?_) h2 fun j hj => ?_
      · obtain ⟨e', g1, g2⟩ := afterL_mem.1 hj
        exact afterL_mem.2 ⟨e', by simp [g1], g2⟩
      · rcases insAll_mem hj with hj | hj
        · rcases insN_mem hj with hj | hj
          · exact h3 j hj
          · rw [hj]; exact h0
        · obtain ⟨x, x1, x2, x3⟩ := psOf_mem hj
          exact h2 x x1 (by rw [x2]; exact h0) j x3
    · refine predsL_sub (fun j hj => h1 j ?_) h2 h3
      obtain ⟨e', g1, g2⟩ := afterL_mem.1 hj
      exact afterL_mem.2 ⟨e', by simp [g1], g2⟩

theorem copy_yields {o : Oper} (hc : copyB o = true) {K : Act → World → Prop} (h : o.wp C.P a w K fun _ _ _ => False) : ∃ v, Yields C.P ops o v a ∧ K (a.put o.dst v) w := by
  simp only [copyB, Bool.and_eq_true, Option.isNone_iff_eq_none] at hc
  have hw : Region.wanted o (yielded ops a.tmps) = true := by simp [Region.wanted, hc.1]
  unfold Oper.wp at h
  have hc2 := hc.2
  split at hc2
  · rename_i x ho
    have e : ∀ w, (execOp a.eval o).run C.P w = .ok (.value (a.eval x)) w := fun w => by simp only [execOp, ho]; rfl
    rw [e] at h
    exact ⟨_, .inl ⟨hw, e⟩, h⟩
  · rename_i x ho
    have e : ∀ w, (execOp a.eval o).run C.P w = .ok (.value (a.eval x)) w := fun w => by simp only [execOp, ho]; rfl
    rw [e] at h
    exact ⟨_, .inl ⟨hw, e⟩, h⟩
  · rename_i x i ho
    have hx : execOp a.eval o = (do pure (.value (← Instr.extract (a.eval x) i)) : Sem _) := by simp only [execOp, ho]
    unfold Instr.extract at hx
    split at hx
    · rename_i vs ev
      split at hx
      · rename_i v hv
        have e : ∀ w, (execOp a.eval o).run C.P w = .ok (.value v) w := fun w => by rw [hx]; rfl
        rw [e] at h
        exact ⟨_, .inl ⟨hw, e⟩, h⟩
      · rw [hx] at h; exact h.elim
    · rw [hx] at h; exact h.elim
  · cases hc2

/-! ### 3. All orders -/
theorem reach_any (hC : C.Ok) (hG : GOk C w0 F) (hB : Base st0) (hF : Facts C nt ops.toList st0 es n) (hW : WfE st0 es n) {bs fs tl : List Nat} (hes : es.map (·.i) = bs ++ fs) (hok : regOk ops bs fs tl = true) {Q : Exit → Act → World → Prop} (hQp : ∀ c a w, ¬ Q (.panic c) a w)
    (htail : ∀ (listed : Array Bool) (a : Act) (w : World) (ρ : Rho), listed.size = ops.size → (∀ j, listed.getD j false = true ↔ j ∈ bs ++ fs) → Reach C w0 F G U nt st0 es n (fun j => listed.getD j false) ρ a w → wpAny C.P .any ops Q tl.length listed a w) :
    ∀ (k : Nat) (listed : Array Bool) (a : Act) (w : World) (ρ : Rho), listed.size = ops.size → (∀ j, listed.getD j false = true → j ∈ bs ++ fs) → (∀ e ∈ es, listed.getD e.i false = true → ∀ j ∈ e.ps, listed.getD j false = true) →
      ((bs ++ fs).filter fun j => !listed.getD j false).length = k → Reach C w0 F G U nt st0 es n (fun j => listed.getD j false) ρ a w → wpAny C.P .any ops Q (k + tl.length) listed a w := by
  simp only [regOk, Bool.and_eq_true] at hok
  obtain ⟨k1, k2, k3, k4, k5, k6, k7, k8, k9⟩ := hok
  have hnd := nodupB_ok k1
  have hlt : ∀ i ∈ bs ++ fs ++ tl, i < ops.size := fun i hi => by simpa [Nat.blt_eq] using List.all_eq_true.1 k3 i hi
  have hall : ∀ i, i < ops.size → i ∈ bs ++ fs ++ tl := by
    intro i hi
    apply Classical.byContradiction
    intro hn
    have hlen := Nat.eq_of_beq_eq_true k2
    have : (i :: (bs ++ fs ++ tl)).Nodup := List.nodup_cons.2 ⟨hn, hnd⟩
    have h2 : (i :: (bs ++ fs ++ tl)).length ≤ (List.range ops.size).length := by
      rw [List.length_range]
      refine nodup_lt_len _ _ this fun x hx => ?_
      rcases List.mem_cons.1 hx with rfl | hx
      · exact hi
      · exact hlt x hx
    simp only [List.length_cons, List.length_range, hlen] at h2
    omega
  have hnd1 : (bs ++ fs).Nodup := (List.nodup_append.1 hnd).1
  have hent : ∀ i ∈ bs ++ fs, ∃ e ∈ es, e.i = i := fun i hi => by
    rw [← hes] at hi
    obtain ⟨e, h1, h2⟩ := List.mem_map.1 hi
    exact ⟨e, h1, h2⟩
  have haft : ∀ {i : Nat} {o : Oper}, ops[i]? = some o → ∀ j, j ∈ afterOf ops.toList i ↔ ∃ e ∈ o.after, Region.binds .any e = true ∧ e.on = j := by
    intro i o ho j
    simp only [afterOf, Array.getElem?_toList, ho, afterL_mem, Array.mem_toList_iff]
  intro k
  induction k with
  | zero =>
    intro listed a w ρ hs hD hcl hk hr
    rw [Nat.zero_add]
    refine htail listed a w ρ hs (fun j => ⟨hD j, fun hj => ?_⟩) hr
    have := List.filter_eq_nil_iff.1 (List.eq_nil_of_length_eq_zero hk) j hj
    simpa using this
  | succ k ih =>
    intro listed a w ρ hs hD hcl hk hr
    have hne : ∃ i ∈ bs ++ fs, listed.getD i false = false := by
      apply Classical.byContradiction
      intro hn
      have : (bs ++ fs).filter (fun j => !listed.getD j false) = [] := List.filter_eq_nil_iff.2 fun j hj => by
        cases h : listed.getD j false with
        | true => simp
        | false => exact absurd ⟨j, hj, h⟩ hn
      rw [this] at hk; cases hk
    obtain ⟨i0, g1, g2, g3, l1, l2, g4, g5⟩ := first_free (ops := ops.toList) (D := fun j => listed.getD j false) k4 (by simp) hne
    have hi0 : i0 < ops.size := hlt i0 (by simp only [List.mem_append]; exact .inl (List.mem_append.1 g1))
    have hready : i0 ∈ Region.ready .any ops listed := by
      refine mem_ready.2 ⟨by rw [getD_tf (by omega)]; exact g2, ops[i0], Array.getElem?_eq_getElem hi0, fun e he hb => ?_⟩
      exact g3 _ ((haft (Array.getElem?_eq_getElem hi0) _).2 ⟨e, he, hb, rfl⟩)
    -- one more
    have more : ∀ (i : Nat) (e : Ent), e ∈ es → e.i = i → i ∈ bs ++ fs → listed.getD i false = false → (∀ j ∈ afterOf ops.toList i, listed.getD j false = true) → (∀ j, memB e.ps j = true → listed.getD j false = true) ∧ ∀ a' w' ρ', Reach C w0 F G U nt st0 es n (fun j => (listed.setIfInBounds i true).getD j false) ρ' a' w' → wpAny C.P .any ops Q (k + tl.length) (listed.setIfInBounds i true) a' w' := by
      intro i e he hei hi hun haf
      have hil : i < listed.size := by rw [hs]; exact hlt i (by simp only [List.mem_append]; exact .inl (List.mem_append.1 hi))
      have hps : ∀ j ∈ e.ps, listed.getD j false = true := by
        obtain ⟨pre, hpre, hf, _⟩ := hF.get e he
        obtain ⟨o, b, kn, ho, eps, _⟩ := hf.ok
        rw [eps]
        refine predsL_sub (fun j hj => haf j ?_) (fun x hx => hcl x (hpre x hx).1) (by simp)
        rw [hei] at ho
        simp only [afterOf, ho]; exact hj
      refine ⟨fun j hj => hps j (memB_iff.1 hj), fun a' w' ρ' hr' => ih _ a' w' ρ' (by simp [hs]) (fun j hj => ?_) (fun x hx hxD j hj => ?_) ?_ hr'⟩
      · rcases (set_getD hil j).1 hj with h | h
        · exact hD j h
        · rw [h]; exact hi
      · refine (set_getD hil j).2 (.inl ?_)
        rcases (set_getD hil x.i).1 hxD with h | h
        · exact hcl x hx h j hj
        · have := hW.ids x hx e he (by rw [h, hei])
          subst this; exact hps j hj
      · have := filter_less (D := fun j => listed.getD j false) (D' := fun j => (listed.setIfInBounds i true).getD j false) hnd1 hi hun (fun j => set_getD hil j)
        omega
    have hfuel : k + 1 + tl.length = (k + tl.length) + 1 := by omega
    rw [hfuel]
    by_cases hb : ∃ b ∈ bs, listed.getD b false = false
    · refine ⟨fun h0 => (by rw [h0] at hready; cases hready), fun i hi => ?_⟩
      obtain ⟨h1, o, ho, h2⟩ := mem_ready.1 hi
      have hisz : i < ops.size := (Array.getElem?_eq_some_iff.1 ho).1
      rw [getD_tf (by omega)] at h1
      have haf : ∀ j ∈ afterOf ops.toList i, listed.getD j false = true := fun j hj => by
        obtain ⟨e, he, hb, rfl⟩ := (haft ho j).1 hj
        exact h2 e he hb
      have hin : i ∈ bs ++ fs := by
        have := hall i hisz
        rcases List.mem_append.1 this with h | h
        · exact h
        · exfalso
          have h3 := List.all_eq_true.1 k6 i h
          simp only [Bool.or_eq_true] at h3
          rcases h3 with h3 | h3
          · obtain ⟨b, b1, b2⟩ := hb
            have := haf b (memB_iff.1 (List.all_eq_true.1 h3 b b1))
            rw [b2] at this; cases this
          · obtain ⟨t, t1, t2⟩ := List.any_eq_true.1 h3
            have := hD t (haf t (memB_iff.1 t2))
            exact (List.nodup_append.1 hnd).2.2 t this t t1 rfl
      obtain ⟨e, he, hei⟩ := hent i hin
      obtain ⟨m1, m2⟩ := more i e he hei hin h1 haf
      have hil : i < listed.size := by omega
      rw [← hei]
      exact hr.wpOp hC hG hB hF hW he (by rw [hei]; exact h1) m1 (D' := fun j => (listed.setIfInBounds i true).getD j false) (fun j => by rw [hei]; exact set_getD hil j) (by rw [hei]; exact m2)
    · have hbs : ∀ b ∈ bs, listed.getD b false = true := fun b hb2 => by
        cases h : listed.getD b false with
        | true => rfl
        | false => exact absurd ⟨b, hb2, h⟩ hb
      have hfs : i0 ∈ fs := by
        rcases List.mem_append.1 g1 with h | h
        · rw [hbs i0 h] at g2; cases g2
        · exact h
      obtain ⟨e, he, hei⟩ := hent i0 g1
      obtain ⟨m1, m2⟩ := more i0 e he hei g1 g2 g3
      have hil : i0 < listed.size := by omega
      have hfl := List.all_eq_true.1 k5 i0 hfs
      unfold floatB at hfl
      rw [Array.getElem?_eq_getElem hi0] at hfl
      simp only [Bool.and_eq_true] at hfl
      have hstep := hr.wpOp hC hG hB hF hW he (by rw [hei]; exact g2) m1 (D' := fun j => (listed.setIfInBounds i0 true).getD j false) (fun j => by rw [hei]; exact set_getD hil j) (Q := fun _ _ _ => False) (K := fun a' w' => ∃ ρ', Reach C w0 F G U nt st0 es n (fun j => (listed.setIfInBounds i0 true).getD j false) ρ' a' w') (fun a' w' ρ' h => ⟨ρ', h⟩)
      rw [hei] at hstep
      unfold Go.wpOp at hstep
      rw [Array.getElem?_eq_getElem hi0] at hstep
      have hcp := hfl.1
      have hgn : (ops[i0]).guard = none := by
        simp only [copyB, Bool.and_eq_true, Option.isNone_iff_eq_none] at hcp; exact hcp.1
      simp only [Region.wanted, hgn, if_true] at hstep
      have hwp : (ops[i0]).wp C.P a w (fun a' w' => ∃ ρ', Reach C w0 F G U nt st0 es n (fun j => (listed.setIfInBounds i0 true).getD j false) ρ' a' w') fun _ _ _ => False := by
        rcases hstep with h | ⟨_, h⟩
        · exact h
        · obtain ⟨_, _, h⟩ := h; exact h.elim
      obtain ⟨v, hy, ρ', hr'⟩ := copy_yields (ops := ops) hcp hwp
      refine wpAny_first (Array.getElem?_eq_getElem hi0) (Region.noSelect_spec k8) (fun c a w h => absurd h (hQp _ _ _)) _ listed a w (fun j oj hj hne hun hno => ?_) hready hy (m2 _ _ ρ' hr')
      have hjs : j < ops.size := (Array.getElem?_eq_some_iff.1 hj).1
      rw [getD_tf (by omega)] at hun
      have hjm : j ∈ fs ++ tl := by
        have := hall j hjs
        simp only [List.mem_append] at this ⊢
        rcases this with (h | h) | h
        · rw [hbs j h] at hun; cases hun
        · exact .inl h
        · exact .inr h
      have h3 := List.all_eq_true.1 hfl.2 j hjm
      simp only [Bool.or_eq_true, hj] at h3
      rcases h3 with (h3 | h3) | h3
      · exact absurd (Nat.eq_of_beq_eq_true h3) hne
      · obtain ⟨x, x1, x2, x3⟩ := (haft hj i0).1 (memB_iff.1 h3)
        exact absurd x3 (hno x x1 x2)
      · exact h3

theorem tail_any (hC : C.Ok) (hG : GOk C w0 F) {K : St → Prop} : ∀ (tl : List Nat) (listed : Array Bool) (kn : List Nat) (st : St) (a : Act) (w : World), seqB ops tl listed = true → vcOps C nt ops.toList (opsAt ops.toList tl) kn st K → RW C.P w0 F G U nt st a w →
    wpAny C.P .any ops (fun e a w => e = .normal ∧ ∃ st', K st' ∧ RW C.P w0 F G U nt st' a w) tl.length listed a w
  | [], listed, kn, st, a, w, hs, hv, hr => by
    simp only [seqB, List.isEmpty_iff] at hs
    exact wpAny_done hs ⟨rfl, st, hv, hr⟩ 0
  | t :: r, listed, kn, st, a, w, hs, hv, hr => by
    simp only [seqB, Bool.and_eq_true, beq_iff_eq] at hs
    refine ⟨fun h => (by rw [hs.1] at h; cases h), fun i hi => ?_⟩
    rw [hs.1] at hi
    simp only [List.mem_singleton] at hi
    subst hi
    have hi : i ∈ Region.ready .any ops listed := by rw [hs.1]; simp
    obtain ⟨_, o, ho, _⟩ := mem_ready.1 hi
    obtain ⟨hw, ρ, h⟩ := hr
    simp only [opsAt, Array.getElem?_toList, ho, vcOps] at hv
    obtain ⟨b, kn', st', hb, hK, hw', h', _⟩ := gP_ok hw hv h
    unfold Go.wpOp
    simp only [ho, hb]
    cases b with
    | true =>
      simp only [if_true]
      refine .inl (Oper.wp_mono (fun a' w' hh => ?_) (opP_ok hC hG h' hw' hK))
      obtain ⟨st2, hK2, hr2⟩ := hh
      exact tail_any hC hG r _ kn' st2 a' w' hs.2 hK2 hr2
    | false =>
      simp only [Bool.false_eq_true, if_false]
      simp only at hK
      split at hK
      · rename_i hd
        exact tail_any hC hG r _ kn' _ _ w hs.2 hK ⟨hw'.putD _ _, ρ, h'.slot o.dst undef _ rfl hd⟩
      · cases hK

/-! ### 4. The region -/
theorem Reach.start {C : Cx} {st0 : St} (hw : Wf st0) (h : Rel C.P w0 F G U nt ρ st0 a w) (hW : WfE st0 es n) : Reach C w0 F G U nt st0 es n (fun _ => false) ρ a w := by
  have hin : ∀ r, inD st0 es (fun _ => false) r → r < st0.nx := by
    intro r hr
    rcases hr with hr | ⟨_, _, h2, _⟩
    · exact hr
    · cases h2
  have key : ∀ v c, scOk ρ st0 v c → scOk ρ (full st0 es n) v c := fun v c hc => hc.congr hW.nx (fun r hr => ⟨full_row0 hW hr, rfl⟩) (fun o ho => ⟨full_ob0 hW ho, rfl⟩)
  refine ⟨h.mem.frm, fun r row e hi => ?_, fun o ob e hi => ?_, fun r r' row row' e e' hi hi' => ?_, fun o o' ob ob' e e' hi hi' => ?_, fun r o row ob e e' hi hi' => ?_, h.size, h.defers, fun t sv e => (h.slots t sv e).congr key, fun e _ he => (by cases he), fun e _ he => (by cases he), h.pins, h.pinr⟩
  · rw [full_row0 hW (hin r hi)] at e; exact h.mem.row r row e
  · rw [full_ob0 hW (hin o hi)] at e; exact (h.mem.ob o ob e).congr key
  · rw [full_row0 hW (hin r hi)] at e; rw [full_row0 hW (hin r' hi')] at e'; exact h.mem.rr r r' row row' e e'
  · rw [full_ob0 hW (hin o hi)] at e; rw [full_ob0 hW (hin o' hi')] at e'; exact h.mem.oo o o' ob ob' e e'
  · rw [full_row0 hW (hin r hi)] at e; rw [full_ob0 hW (hin o hi')] at e'; exact h.mem.ro r o row ob e e'
theorem Reach.done {st0 : St} {D : Nat → Bool} {kn : Kn} (hB : Base st0) (hW : WfE st0 es n) (hk : KnOk es kn) (hall : ∀ e ∈ es, D e.i = true) (h : Reach C w0 F G U nt st0 es n D ρ a w) : RW C.P w0 F G U nt (fullK st0 es kn n) a w := by
  have hin : ∀ r row, look (full st0 es n).rw r = some row → inD st0 es D r := fun r row e => by
    rcases full_row_in hB hW e with h1 | ⟨x, x1, x2, x3⟩
    · exact .inl h1
    · exact .inr ⟨x, x1, hall x x1, x2, x3⟩
  have hin' : ∀ r row, look (full st0 es n).ob r = some row → inD st0 es D r := fun r row e => by
    rcases full_ob_in hB hW e with h1 | ⟨x, x1, x2, x3⟩
    · exact .inl h1
    · exact .inr ⟨x, x1, hall x x1, x2, x3⟩
  have key : ∀ v c, scOk ρ (full st0 es n) v c → scOk ρ (fullK st0 es kn n) v c := fun v c hc => hc.congr (Nat.le_refl _) (fun _ _ => ⟨rfl, rfl⟩) (fun _ _ => ⟨rfl, rfl⟩)
  have hlt : ∀ r, inD st0 es D r → r < n := by
    intro r hr
    rcases hr with hr | ⟨x, x1, _, x3, x4⟩
    · have := hW.nx; omega
    · have := (hW.rng x x1).2.2; omega
  refine ⟨⟨fun o ho => Nat.lt_of_lt_of_le (hB.po o ho) hW.nx, fun o ho => Nat.lt_of_lt_of_le (hB.pr o ho) hW.nx⟩, ρ, ⟨⟨h.frm, fun r row e => hlt r (hin r row e), fun r row e => hlt r (hin' r row e), fun r row e => h.row r row e (hin r row e), fun o ob e => (h.ob o ob e (hin' o ob e)).congr key,
    fun r r' row row' e e' => h.rr r r' row row' e e' (hin r row e) (hin r' row' e'), fun r r' row row' e e' => h.oo r r' row row' e e' (hin' r row e) (hin' r' row' e'), fun r r' row row' e e' => h.ro r r' row row' e e' (hin r row e) (hin' r' row' e')⟩, h.size, h.defers, fun t sv e => ?_, h.pins, h.pinr⟩⟩
  have hkn : ∀ {kn : Kn}, KnOk es kn → ∀ {t : Nat} {sv : SV}, look (kAll kn) t = some sv → ∃ x ∈ es, x.add.d = some t ∧ sv = x.add.s := by
    intro kn
    induction kn with
    | nil => intro _ t sv e; cases e
    | cons q l ih =>
      intro hk t sv e
      obtain ⟨g, t', b⟩ := q
      simp only [kAll, look] at e
      split at e
      · rename_i e1; subst e1
        injection e with e
        obtain ⟨x, x1, x2, x3, x4⟩ := hk g t' b (by simp)
        exact ⟨x, x1, x3, by rw [x4, ← e]⟩
      · exact ih (fun g t b hm => hk g t b (by simp [hm])) e
  simp only [fullK] at e
  rw [look_append] at e
  split at e
  · rename_i v hv
    injection e with e; subst e
    obtain ⟨x, x1, x2, rfl⟩ := hkn hk hv
    exact (h.slD x x1 (hall x x1) t x2).congr key
  · rw [look_append] at e
    split at e
    · rename_i v hv
      injection e with e; subst e
      obtain ⟨x, x1, x2, rfl⟩ := adSl_mem hv
      exact (h.slD x x1 (hall x x1) t x2).congr key
    · exact (h.sl0 t sv e).congr key
theorem lose_base {st : St} (hw : Wf st) (h : Rel C.P w0 F G U nt ρ st a w) (ds : List Nat) : Rel C.P w0 F G U nt ρ (st.lose ds) a w ∧ Base (st.lose ds) ∧ Wf (st.lose ds) := by
  have key : ∀ v c, scOk ρ st v c → scOk ρ (st.lose ds) v c := fun v c hc => hc.congr (Nat.le_refl _) (fun _ _ => ⟨rfl, rfl⟩) (fun _ _ => ⟨rfl, rfl⟩)
  have hr : Rel C.P w0 F G U nt ρ (st.lose ds) a w := by
    refine ⟨⟨h.mem.frm, h.mem.rlt, h.mem.olt, h.mem.row, fun o ob e => (h.mem.ob o ob e).congr key, h.mem.rr, h.mem.oo, h.mem.ro⟩, h.size, h.defers, fun t sv e => ?_, h.pins, h.pinr⟩
    have e : look (loseSl st.sl ds) t = some sv := e
    rw [look_lose] at e
    split at e
    · cases e
    · exact (h.slots t sv e).congr key
  refine ⟨hr, ⟨hr.mem.rlt, hr.mem.olt, fun t sv e => svOk_lt (hr.slots t sv e), fun o ob e c hc => ?_, hw.1, hw.2⟩, hw⟩
  obtain ⟨_, vs, _, g⟩ := hr.mem.ob o ob e
  obtain ⟨v, hv⟩ := all2_mem g c hc
  exact scOk_lt hv
theorem dstsOf_mem {ops : List Oper} : ∀ {l : List Nat} {i t : Nat}, i ∈ l → dstOf ops i = some t → t ∈ dstsOf ops l
  | [], i, t, h, _ => by cases h
  | x :: r, i, t, h, ht => by
    simp only [dstsOf]
    rcases List.mem_cons.1 h with rfl | h
    · rw [ht]; simp
    · have := dstsOf_mem h ht
      split
      · exact List.mem_cons_of_mem _ this
      · exact this
theorem dstsOf_inj {ops : List Oper} : ∀ {l : List Nat}, (dstsOf ops l).Nodup → ∀ {i j t : Nat}, i ∈ l → j ∈ l → dstOf ops i = some t → dstOf ops j = some t → i = j
  | [], _, i, j, t, h, _, _, _ => by cases h
  | x :: r, hn, i, j, t, hi, hj, h1, h2 => by
    simp only [dstsOf] at hn
    have hr : (dstsOf ops r).Nodup := by
      split at hn
      · exact (List.nodup_cons.1 hn).2
      · exact hn
    have hx : dstOf ops x = some t → t ∉ dstsOf ops r := fun e => by
      rw [e] at hn; exact (List.nodup_cons.1 hn).1
    rcases List.mem_cons.1 hi with e1 | e1 <;> rcases List.mem_cons.1 hj with e2 | e2
    · rw [e1, e2]
    · subst e1; exact absurd (dstsOf_mem e2 h2) (hx h1)
    · subst e2; exact absurd (dstsOf_mem e1 h1) (hx h2)
    · exact dstsOf_inj hr e1 e2 h1 h2
theorem markL_spec : ∀ {l : List Nat} {m : Array Bool}, (∀ i ∈ l, i < m.size) → (markL m l).size = m.size ∧ ∀ j, (markL m l).getD j false = true ↔ m.getD j false = true ∨ j ∈ l
  | [], m, _ => ⟨rfl, fun j => by simp [markL]⟩
  | i :: r, m, h => by
    obtain ⟨h1, h2⟩ := markL_spec (l := r) (m := m.setIfInBounds i true) fun x hx => by simpa using h x (by simp [hx])
    refine ⟨by simpa [markL] using h1, fun j => ?_⟩
    simp only [markL]
    rw [h2 j, set_getD (h i (by simp))]
    simp only [List.mem_cons]
    constructor
    · rintro ((h | h) | h)
      · exact .inl h
      · exact .inr (.inl h)
      · exact .inr (.inr h)
    · rintro (h | h | h)
      · exact .inl (.inl h)
      · exact .inl (.inr h)
      · exact .inr h
theorem vc_regionD (hC : C.Ok) (hG : GOk C w0 F) {id : Nat} {ops : Array Oper} {st : St} {K : St → Prop} {Q : Exit → Act → World → Prop} (hQ : ∀ st' a' w', K st' → RW C.P w0 F G U nt st' a' w' → Q .normal a' w') (hm : C.P.follows .mixedOrders = true)
    (hv : RegD C nt ops st K) (hr : RW C.P w0 F G U nt st a w) : (Code.region id ops true).wp C.P Q a w := by
  obtain ⟨bs, fs, tl, hok, hv⟩ := hv.ok
  obtain ⟨hw, ρ, h⟩ := hr
  have hdr : Rel C.P w0 F G U nt ρ st a { w with drawn := w.drawn + 1 } := ⟨h.mem.drawn (w.drawn + 1), h.size, h.defers, h.slots, h.pins, h.pinr⟩
  obtain ⟨h0, hB, hw0⟩ := lose_base hw hdr (dstsOf ops.toList (bs ++ fs))
  have hok' := hok
  simp only [regOk, Bool.and_eq_true] at hok'
  obtain ⟨k1, k2, k3, k4, k5, k6, k7, k8, k9⟩ := hok'
  have hnd := nodupB_ok k1
  have hlt : ∀ i ∈ bs ++ fs ++ tl, i < ops.size := fun i hi => by simpa [Nat.blt_eq] using List.all_eq_true.1 k3 i hi
  obtain ⟨es, kn, n, hK, hes, hF, hk⟩ := vcD_facts hC (bs ++ fs) [] [] _ (by simpa using (List.nodup_append.1 hnd).1) .nil (fun _ _ _ h => by cases h) hv
  simp only [List.map_nil, List.nil_append] at hes
  have hids := nodup_ids hes (List.nodup_append.1 hnd).1
  have hd : ∀ e ∈ es, e.i ∈ bs ++ fs ∧ dstOf ops.toList e.i = e.add.d := fun e he => by
    obtain ⟨pre, _, hf, _⟩ := hF.get e he
    obtain ⟨o, b, kn, ho, _, ed, _⟩ := hf.ok
    exact ⟨by rw [← hes]; exact List.mem_map.2 ⟨e, he, rfl⟩, by simp [dstOf, ho, ed]⟩
  have hW := hF.wf hids (fun e he e' he' t ht ht' => hids e he e' he' (dstsOf_inj (nodupB_ok k7) (hd e he).1 (hd e' he').1 (by rw [(hd e he).2, ht]) (by rw [(hd e' he').2, ht'])))
    (fun e he t ht => by
      show look (loseSl st.sl _) t = none
      rw [look_lose, if_pos (dstsOf_mem (hd e he).1 (by rw [(hd e he).2, ht]))])
  have hstart := Reach.start hw0 h0 hW
  have hQ' : ∀ e a' w', (e = .normal ∧ ∃ st', K st' ∧ RW C.P w0 F G U nt st' a' w') → Q e a' w' := fun e a' w' ⟨e1, st', h1, h2⟩ => by subst e1; exact hQ st' a' w' h1 h2
  refine wp_mono (Q := fun e a' w' => e = .normal ∧ ∃ st', K st' ∧ RW C.P w0 F G U nt st' a' w') ?_ (fun e a' w' h => hQ' e a' w' h)
  refine wp_region_any hm ?_
  have hrep : ∀ j, (Array.replicate ops.size false).getD j false = false := fun j => by
    simp only [Array.getD_eq_getD_getElem?, Array.getElem?_replicate]; split <;> rfl
  have hlen : ((bs ++ fs).filter fun j => !(Array.replicate ops.size false).getD j false).length + tl.length = ops.size := by
    have : (bs ++ fs).filter (fun j => !(Array.replicate ops.size false).getD j false) = bs ++ fs := List.filter_eq_self.2 fun j _ => by rw [hrep]; rfl
    rw [this]
    have := Nat.eq_of_beq_eq_true k2
    simp only [List.length_append] at this ⊢; omega
  have := reach_any (G := G) (U := U) hC hG hB hF hW hes hok (Q := fun e a' w' => e = .normal ∧ ∃ st', K st' ∧ RW C.P w0 F G U nt st' a' w') (fun c a w h => by cases h.1) (fun listed a w ρ hs hl hrch => by
      have hrw := hrch.done hB hW hk fun e he => (hl e.i).2 (hd e he).1
      have hL : listed = markL (Array.replicate ops.size false) (bs ++ fs) := by
        obtain ⟨m1, m2⟩ := markL_spec (l := bs ++ fs) (m := Array.replicate ops.size false) fun i hi => by simpa using hlt i (by simp only [List.mem_append]; exact .inl (List.mem_append.1 hi))
        apply Array.ext
        · rw [hs, m1]; simp
        · intro i h1 h2
          have h3 : listed[i] = listed.getD i false := by simp [Array.getD_eq_getD_getElem?, h1]
          have h4 : (markL (Array.replicate ops.size false) (bs ++ fs))[i] = (markL (Array.replicate ops.size false) (bs ++ fs)).getD i false := by simp [Array.getD_eq_getD_getElem?, h2]
          rw [h3, h4]
          have h5 := hl i
          have h6 := m2 i
          rw [hrep] at h6
          cases h7 : listed.getD i false <;> cases h8 : (markL (Array.replicate ops.size false) (bs ++ fs)).getD i false <;> simp_all
      rw [hL]
      exact tail_any hC hG tl _ [] _ a w k9 hK hrw) _ (Array.replicate ops.size false) a _ ρ (by simp) (fun j hj => by rw [hrep] at hj; cases hj) (fun e _ he => by rw [hrep] at he; cases he) rfl (by
        have : (fun j => (Array.replicate ops.size false).getD j false) = fun _ => false := funext hrep
        rw [this]; exact hstart)
  rw [hlen] at this
  exact this
end
end Go.Proofs.Ytjmhffbenbiieaa.Ev
