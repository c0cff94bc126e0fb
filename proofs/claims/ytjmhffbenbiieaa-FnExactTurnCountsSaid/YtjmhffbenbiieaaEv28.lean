/- Part 28: regions in any order: all orders at once. -/
import Derived.Test.YtjmhffbenbiieaaEv27
set_option linter.unusedVariables false
set_option linter.unusedSimpArgs false
namespace Go.Proofs.Ytjmhffbenbiieaa.Ev
open Go.RowKit

/-! ### 1. What vcD says of each operation -/
def GuardIs (ops : List Oper) (pre : List Ent) (ps : List Nat) (o : Oper) (b : Bool) : Prop := match o.guard with
  | none => b = true
  | some (g, want) => ∃ t bv x, (ops[g]?).bind (·.dst) = some t ∧ memB ps g = true ∧ x ∈ pre ∧ x.i = g ∧ x.add.d = some t ∧ x.add.s = .pv (.one (.val (.bool bv))) ∧ b = (some bv == some want)
def KnOk (pre : List Ent) (kn : Kn) : Prop := ∀ g t b, (g, t, b) ∈ kn → ∃ x ∈ pre, x.i = g ∧ x.add.d = some t ∧ x.add.s = .pv (.one (.val (.bool b)))
structure Fact (C : Cx) (nt : Nat) (ops : List Oper) (st0 : St) (pre : List Ent) (e : Ent) : Prop where
  ok : ∃ o b kn, ops[e.i]? = some o ∧ e.ps = predsL pre [] o.after.toList ∧ e.add.d = o.dst ∧ GuardIs ops pre e.ps o b ∧ KnOk pre kn ∧
    match b with
    | true => ∃ st', Leads C nt (small st0 pre e.ps kn e.lo) o st' ∧ st'.po = (small st0 pre e.ps kn e.lo).po ∧ st'.pr = (small st0 pre e.ps kn e.lo).pr ∧ addOk (small st0 pre e.ps kn e.lo) e.lo o st' = true ∧ e.add = addOf e.lo o st' ∧ e.hi = st'.nx
    | false => e.add = ⟨o.dst, .pv (.one (.val undef)), [], []⟩ ∧ e.hi = e.lo ∧ dOk nt o.dst = true
inductive Facts (C : Cx) (nt : Nat) (ops : List Oper) (st0 : St) : List Ent → Nat → Prop where
  | nil : Facts C nt ops st0 [] st0.nx
  | snoc {es : List Ent} {n : Nat} {e : Ent} : Facts C nt ops st0 es n → Fact C nt ops st0 es e → e.lo = n → e.lo ≤ e.hi → Facts C nt ops st0 (es ++ [e]) e.hi
theorem findE_mem : ∀ {es : List Ent} {i : Nat} {x : Ent}, findE es i = some x → x ∈ es ∧ x.i = i
  | [], i, x, h => by cases h
  | e :: r, i, x, h => by
    simp only [findE] at h
    split at h
    · rename_i h1; injection h with h; subst h; exact ⟨by simp, h1⟩
    · obtain ⟨h1, h2⟩ := findE_mem h; exact ⟨by simp [h1], h2⟩
theorem knows_mem : ∀ {kn : Kn} {g : Nat} {b : Bool}, knows kn g = some b → ∃ t, (g, t, b) ∈ kn
  | [], g, b, h => by cases h
  | (g', t, b') :: r, g, b, h => by
    simp only [knows] at h
    split at h
    · rename_i h1; subst h1; injection h with h; subst h; exact ⟨t, by simp⟩
    · obtain ⟨t', h1⟩ := knows_mem h; exact ⟨t', by simp [h1]⟩
theorem gD_ok {ops : List Oper} {es : List Ent} {ps : List Nat} {o : Oper} {kn : Kn} {K : Bool → Kn → Prop} (hids : ∀ e ∈ es, ∀ e' ∈ es, e.i = e'.i → e = e') (hk : KnOk es kn) (h : gD ops es ps o kn K) : ∃ b kn', K b kn' ∧ GuardIs ops es ps o b ∧ KnOk es kn' := by
  unfold gD at h
  split at h
  · rename_i e; exact ⟨true, kn, h, by simp [GuardIs, e], hk⟩
  · rename_i g want e
    split at h
    · rename_i x t h1 h2 h3
      split at h
      · rename_i t' b h4 h5
        split at h
        · rename_i h6
          have h6 := Nat.eq_of_beq_eq_true h6
          subst h6
          obtain ⟨m1, m2⟩ := findE_mem h2
          have hg : ∀ b', b' = (some b == some want) → GuardIs ops es ps o b' := fun b' hb => by
            simp only [GuardIs, e]
            exact ⟨t', b, x, h3, h1, m1, m2, h4, h5, hb⟩
          split at h
          · rename_i b' h7
            obtain ⟨t2, h8⟩ := knows_mem h7
            obtain ⟨y, y1, y2, y3, y4⟩ := hk g t2 b' h8
            have := hids y y1 x m1 (by rw [y2, m2])
            subst this
            rw [h5] at y4
            injection y4 with y4; injection y4 with y4; injection y4 with y4; injection y4 with y4
            subst y4
            split at h
            · exact ⟨true, kn, h, hg _ rfl, hk⟩
            · exact ⟨true, kn, h, hg _ rfl, hk⟩
            · exact ⟨false, kn, h, hg _ rfl, hk⟩
            · exact ⟨false, kn, h, hg _ rfl, hk⟩
          · cases b with
            | true =>
              refine ⟨want, _, h.t rfl, hg _ (by cases want <;> rfl), fun g' t'' b'' hm => ?_⟩
              rcases List.mem_cons.1 hm with hm | hm
              · injection hm with a1 a2; injection a2 with a2 a3; subst a1; subst a2; subst a3
                exact ⟨x, m1, m2, h4, h5⟩
              · exact hk g' t'' b'' hm
            | false =>
              refine ⟨!want, _, h.f rfl, hg _ (by cases want <;> rfl), fun g' t'' b'' hm => ?_⟩
              rcases List.mem_cons.1 hm with hm | hm
              · injection hm with a1 a2; injection a2 with a2 a3; subst a1; subst a2; subst a3
                exact ⟨x, m1, m2, h4, h5⟩
              · exact hk g' t'' b'' hm
        · cases h
      · cases h
    · cases h
theorem nodup_ids {es : List Ent} {l : List Nat} (h : es.map (·.i) = l) (hn : l.Nodup) : ∀ e ∈ es, ∀ e' ∈ es, e.i = e'.i → e = e' := by
  subst h
  induction es with
  | nil => intro e he; cases he
  | cons x r ih =>
    simp only [List.map_cons, List.nodup_cons] at hn
    intro e he e' he' hee
    rcases List.mem_cons.1 he with h1 | h1 <;> rcases List.mem_cons.1 he' with h2 | h2
    · rw [h1, h2]
    · subst h1; exact absurd (List.mem_map.2 ⟨e', h2, hee.symm⟩) hn.1
    · subst h2; exact absurd (List.mem_map.2 ⟨e, h1, hee⟩) hn.1
    · exact ih hn.2 e h1 e' h2 hee
theorem vcD_facts {C : Cx} (hC : C.Ok) {nt : Nat} {ops : List Oper} {st0 : St} {K : St → Prop} : ∀ (todo : List Nat) (es : List Ent) (kn : Kn) (n : Nat), (es.map (·.i) ++ todo).Nodup → Facts C nt ops st0 es n → KnOk es kn → vcD C nt ops st0 todo es kn n K →
    ∃ es' kn' n', K (fullK st0 es' kn' n') ∧ es'.map (·.i) = es.map (·.i) ++ todo ∧ Facts C nt ops st0 es' n' ∧ KnOk es' kn'
  | [], es, kn, n, hnd, hf, hk, h => ⟨es, kn, n, by simpa only [vcD, fSt_eq] using h, by simp, hf, hk⟩
  | i :: rest, es, kn, n, hnd, hf, hk, h => by
    simp only [vcD] at h
    split at h
    · cases h
    · rename_i o ho
      rw [predsF_eq] at h
      have hids := nodup_ids (es := es) rfl (List.nodup_append.1 hnd).1
      obtain ⟨b, kn', h, hg, hk'⟩ := gD_ok hids hk h
      have step : ∀ (e : Ent), e.i = i → e.lo = n → e.lo ≤ e.hi → Fact C nt ops st0 es e → vcD C nt ops st0 rest (es ++ [e]) kn' e.hi K → ∃ es' kn' n', K (fullK st0 es' kn' n') ∧ es'.map (·.i) = es.map (·.i) ++ i :: rest ∧ Facts C nt ops st0 es' n' ∧ KnOk es' kn' := by
        intro e e1 e2 e3 hfe hv
        obtain ⟨es', kn2, n', h1, h2, h3, h4⟩ := vcD_facts hC rest (es ++ [e]) kn' e.hi (by simpa [e1] using hnd) (.snoc hf hfe e2 e3) (fun g t b hm => by
          obtain ⟨x, x1, x2⟩ := hk' g t b hm
          exact ⟨x, by simp [x1], x2⟩) hv
        exact ⟨es', kn2, n', h1, by simpa [e1] using h2, h3, h4⟩
      cases b with
      | true =>
        simp only [fSt_eq] at h
        obtain ⟨st', h, hl, hpo, hpr⟩ := growP_ok hC h
        split at h
        · rename_i hok
          simp only [fU_eq, fAdd_eq, fEs_eq] at h
          refine step _ rfl rfl ?_ ⟨o, true, kn', ho, rfl, rfl, hg, hk', st', hl, hpo, hpr, hok, rfl, rfl⟩ h
          unfold addOk at hok
          split at hok
          · rename_i h1
            simp only [Bool.and_eq_true] at h1
            exact Nat.le_of_ble_eq_true h1.2
          · cases hok
        · cases h
      | false =>
        simp only at h
        split at h
        · rename_i hd
          rw [fEs_eq] at h
          exact step ⟨i, predsL es [] o.after.toList, n, n, ⟨o.dst, .pv (.one (.val undef)), [], []⟩⟩ rfl rfl (Nat.le_refl _) ⟨o, false, kn', ho, rfl, rfl, hg, hk', rfl, rfl, hd⟩ h
        · cases h

section
variable {C : Cx} {w0 : World} {F : Nat → Prop} {G : List Nat} {U : List Value} {nt : Nat} {st0 : St} {es : List Ent} {n : Nat} {D : Nat → Bool} {ρ : Rho} {a : Act} {w : World} {ops : List Oper}

theorem Facts.get (h : Facts C nt ops st0 es n) : ∀ e ∈ es, ∃ pre, (∀ x ∈ pre, x ∈ es ∧ x.hi ≤ e.lo) ∧ Fact C nt ops st0 pre e ∧ st0.nx ≤ e.lo ∧ e.lo ≤ e.hi ∧ e.hi ≤ n ∧ ∃ post, es = pre ++ e :: post := by
  have hle : ∀ {es : List Ent} {n : Nat}, Facts C nt ops st0 es n → st0.nx ≤ n ∧ ∀ x ∈ es, x.hi ≤ n := by
    intro es n h
    induction h with
    | nil => exact ⟨Nat.le_refl _, by simp⟩
    | snoc hf hfe e1 e2 ih =>
      refine ⟨by omega, fun x hx => ?_⟩
      rcases List.mem_append.1 hx with hx | hx
      · have := ih.2 x hx; omega
      · simp only [List.mem_singleton] at hx; subst hx; exact Nat.le_refl _
  induction h with
  | nil => intro e he; cases he
  | @snoc es n e hf hfe e1 e2 ih =>
    intro x hx
    obtain ⟨g1, g2⟩ := hle hf
    rcases List.mem_append.1 hx with hx | hx
    · obtain ⟨pre, h1, h2, h3, h4, h5, post, h6⟩ := ih x hx
      exact ⟨pre, fun y hy => ⟨by simp [(h1 y hy).1], (h1 y hy).2⟩, h2, h3, h4, by omega, post ++ [e], by rw [h6]; simp⟩
    · simp only [List.mem_singleton] at hx; subst hx
      exact ⟨es, fun y hy => ⟨by simp [hy], by have := g2 y hy; omega⟩, hfe, by omega, e2, Nat.le_refl _, [], rfl⟩
theorem Facts.wf (h : Facts C nt ops st0 es n) (hids : ∀ e ∈ es, ∀ e' ∈ es, e.i = e'.i → e = e') (hdst : ∀ e ∈ es, ∀ e' ∈ es, ∀ t, e.add.d = some t → e'.add.d = some t → e = e') (hdst0 : ∀ e ∈ es, ∀ t, e.add.d = some t → look st0.sl t = none) : WfE st0 es n := by
  have hnx : st0.nx ≤ n := by
    induction h with
    | nil => exact Nat.le_refl _
    | snoc hf hfe e1 e2 ih =>
      have := ih (fun e he e' he' => hids e (by simp [he]) e' (by simp [he'])) (fun e he e' he' => hdst e (by simp [he]) e' (by simp [he'])) (fun e he => hdst0 e (by simp [he]))
      omega
  refine ⟨hnx, fun e he => ?_, ?_, fun e he p hp => ?_, fun e he p hp => ?_, hids, hdst, hdst0⟩
  · obtain ⟨_, _, _, h1, h2, h3, _⟩ := h.get e he; exact ⟨h1, h2, h3⟩
  · clear hids hdst hdst0 hnx
    have hle : ∀ {es : List Ent} {n : Nat}, Facts C nt ops st0 es n → ∀ x ∈ es, x.hi ≤ n := by
      intro es n h x hx
      obtain ⟨_, _, _, _, _, h3, _⟩ := h.get x hx; exact h3
    induction h with
    | nil => intro e he; cases he
    | @snoc es n x hf hfe e1 e2 ih =>
      intro e he e' he' r h1 h2 h3 h4
      have := hle hf
      rcases List.mem_append.1 he with g1 | g1 <;> rcases List.mem_append.1 he' with g2 | g2
      · exact ih e g1 e' g2 r h1 h2 h3 h4
      · simp only [List.mem_singleton] at g2; subst g2; have := this e g1; omega
      · simp only [List.mem_singleton] at g1; subst g1; have := this e' g2; omega
      · simp only [List.mem_singleton] at g1 g2; rw [g1, g2]
  · obtain ⟨pre, _, hf, _⟩ := h.get e he
    obtain ⟨o, b, kn, _, _, _, _, _, hb⟩ := hf.ok
    cases b with
    | true =>
      obtain ⟨st', _, _, _, hok, hadd, hhi⟩ := hb
      rw [hadd] at hp
      have hr : okRs st'.nx (newR e.lo st'.rw) = true := by
        unfold addOk at hok
        split at hok
        · split at hok
          · assumption
          · cases hok
        · cases hok
      have := okRs_ok hr p hp
      exact ⟨newR_ge hp, by rw [hhi]; exact this.1, this.2⟩
    | false => rw [hb.1] at hp; cases hp
  · obtain ⟨pre, _, hf, _⟩ := h.get e he
    obtain ⟨o, b, kn, _, _, _, _, _, hb⟩ := hf.ok
    cases b with
    | true =>
      obtain ⟨st', _, _, _, hok, hadd, hhi⟩ := hb
      rw [hadd] at hp
      have hr : okOs st' st'.nx (newO e.lo st'.ob) = true := by
        unfold addOk at hok
        split at hok
        · split at hok
          · split at hok
            · assumption
            · cases hok
          · cases hok
        · cases hok
      have := okOs_ok hr p hp
      exact ⟨newO_ge hp, by rw [hhi]; exact this.1, this.2.1⟩
    | false => rw [hb.1] at hp; cases hp

/-- An operation that is not wanted. -/
theorem Reach.skip (hB : Base st0) (hW : WfE st0 es n) {e : Ent} (he : e ∈ es) (hnd : D e.i = false) {d : Option Nat} (hadd : e.add = ⟨d, .pv (.one (.val undef)), [], []⟩) (hhi : e.hi = e.lo) (hd : dOk nt d = true)
    {D' : Nat → Bool} (hD' : ∀ j, D' j = true ↔ D j = true ∨ j = e.i) (h : Reach C w0 F G U nt st0 es n D ρ a w) : Reach C w0 F G U nt st0 es n D' ρ (a.put d undef) w := by
  have hin : ∀ r, inD st0 es D' r → inD st0 es D r := by
    intro r hr
    rcases hr with hr | ⟨x, x1, x2, x3, x4⟩
    · exact .inl hr
    · rcases (hD' x.i).1 x2 with h1 | h1
      · exact .inr ⟨x, x1, h1, x3, x4⟩
      · have := hW.ids x x1 e he h1; subst this; omega
  have hin' : ∀ r, inD st0 es D r → inD st0 es D' r := by
    intro r hr
    rcases hr with hr | ⟨x, x1, x2, x3, x4⟩
    · exact .inl hr
    · exact .inr ⟨x, x1, (hD' _).2 (.inl x2), x3, x4⟩
  refine ⟨h.frm, fun r row e1 hi => h.row r row e1 (hin r hi), fun r row e1 hi => h.ob r row e1 (hin r hi), fun r r' row row' e1 e2 hi hi' => h.rr r r' row row' e1 e2 (hin r hi) (hin r' hi'), fun r r' row row' e1 e2 hi hi' => h.oo r r' row row' e1 e2 (hin r hi) (hin r' hi'), fun r r' row row' e1 e2 hi hi' => h.ro r r' row row' e1 e2 (hin r hi) (hin r' hi'), ?_, ?_, fun t sv e1 => ?_, fun x hx hxD t ht => ?_, fun x hx hxD => ?_, h.pins, h.pinr⟩
  · cases d <;> simp [Act.put, h.size]
  · cases d <;> exact h.defers
  · rw [getD_put_ne]
    · exact h.sl0 t sv e1
    · intro s hs e2; subst e2
      have := hW.dst0 e he s (by rw [hadd]; exact hs)
      rw [this] at e1; cases e1
  · rcases (hD' x.i).1 hxD with h1 | h1
    · rw [getD_put_ne]
      · exact h.slD x hx h1 t ht
      · intro s hs e2; subst e2
        have := hW.dst x hx e he s ht (by rw [hadd]; exact hs)
        subst this; rw [hnd] at h1; cases h1
    · have := hW.ids x hx e he h1; subst this
      rw [hadd] at ht ⊢
      simp only at ht
      subst ht
      have hlt : t < a.tmps.size := by rw [h.size]; simpa [dOk] using hd
      show (a.put (some t) undef).tmps.getD t undef = undef
      simp [Act.put, Array.getD_eq_getD_getElem?, hlt]
  · rcases (hD' x.i).1 hxD with h1 | h1
    · obtain ⟨⟨g1, g2⟩, g3⟩ := h.nms x hx h1
      exact ⟨⟨svAll.imp (fun c hc => hc.imp hin') g1, g2⟩, fun p hp c hc => ⟨(g3 p hp c hc).1.imp hin', (g3 p hp c hc).2⟩⟩
    · have := hW.ids x hx e he h1; subst this
      rw [hadd]; exact ⟨⟨trivial, trivial⟩, fun p hp => by cases hp⟩

/-- One operation of the region, whatever has been done already: what surely comes ahead of it has been done. -/
theorem Reach.wpOp {ops : Array Oper} (hC : C.Ok) (hG : GOk C w0 F) (hB : Base st0) (hF : Facts C nt ops.toList st0 es n) (hW : WfE st0 es n) {e : Ent} (he : e ∈ es) (hnd : D e.i = false) (hps : ∀ j, memB e.ps j = true → D j = true) {D' : Nat → Bool} (hD' : ∀ j, D' j = true ↔ D j = true ∨ j = e.i) (h : Reach C w0 F G U nt st0 es n D ρ a w) {Q : Exit → Act → World → Prop} {K : Act → World → Prop} (hK : ∀ a' w' ρ', Reach C w0 F G U nt st0 es n D' ρ' a' w' → K a' w') :
    Go.wpOp C.P ops Q e.i K a w := by
  obtain ⟨pre, hpre, hf, _⟩ := hF.get e he
  obtain ⟨o, b, kn, ho, eps, ed, hg, hkn, hb⟩ := hf.ok
  rw [Array.getElem?_toList] at ho
  have hpreD : ∀ x ∈ pre, memB e.ps x.i = true → D x.i = true := fun x _ hm => hps _ hm
  have hwant : Region.wanted o (yielded ops a.tmps) = b := by
    unfold GuardIs at hg
    unfold Region.wanted
    split at hg
    · rename_i eg; rw [eg]; exact hg.symm
    · rename_i g want eg
      obtain ⟨t, bv, x, g1, g2, g3, g4, g5, g6, g7⟩ := hg
      rw [eg]
      simp only
      have hs := h.slD x (hpre x g3).1 (hps _ (by rw [g4]; exact g2)) t g5
      rw [g6] at hs
      have hs : a.tmps.getD t undef = .bool bv := hs
      have hy : yielded ops a.tmps g = some bv := by
        rw [Array.getElem?_toList] at g1
        simp only [yielded, g1, Option.bind_some]
        by_cases hlt : t < a.tmps.size
        · have : a.tmps[t]? = some (.bool bv) := by rw [← hs]; simp [hlt]
          rw [this]
        · have hn : a.tmps[t]? = none := Array.getElem?_eq_none (Nat.le_of_not_lt hlt)
          rw [Array.getD_eq_getD_getElem?, hn] at hs
          cases hs
      rw [hy, g7]
  unfold Go.wpOp
  simp only [ho, hwant]
  cases b with
  | true =>
    obtain ⟨st', h1, h2, h3, h4, h5, h6⟩ := hb
    simp only [if_true]
    have := h.step hC hG hB hW he hnd (pre := pre) (kn := kn) (o := o) (st' := st') (fun x hx => hpre x hx) hps (fun g t b hm hmem => by
      obtain ⟨x, x1, x2⟩ := hkn g t b hm
      exact ⟨x, (hpre x x1).1, x2⟩) h1 h2 h3 h4 h5 h6 hD'
    refine .inl ?_
    have hm := Oper.wp_mono (K' := K) (fun a' w' hh => by obtain ⟨ρ', hh⟩ := hh; exact hK a' w' ρ' hh) this
    -- no exit but the normal one
    unfold Oper.wp at hm ⊢
    generalize (execOp a.eval o).run C.P w = r at *
    cases r with
    | ok nn w' =>
      cases nn with
      | enter f args =>
        refine Calls.mono hm fun q w'' he => ?_
        cases q with
        | returned u => exact he
        | panicked c => exact he.elim
        | outgrown => obtain ⟨_, _, hx⟩ := he; exact hx.elim
      | _ => exact hm
    | halt x w' =>
      cases x <;> simp only [Oper.upon] at hm ⊢
      all_goals (first | exact hm.elim | exact hm)
  | false =>
    simp only [Bool.false_eq_true, if_false]
    exact hK _ _ ρ (h.skip hB hW he hnd (d := o.dst) hb.1 hb.2.1 hb.2.2 hD')
end
end Go.Proofs.Ytjmhffbenbiieaa.Ev
