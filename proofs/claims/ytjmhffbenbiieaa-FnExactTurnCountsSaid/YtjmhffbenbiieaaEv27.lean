/- Part 27: regions in any order: one operation, whatever has been done already. -/
import Derived.Test.YtjmhffbenbiieaaEv26
set_option linter.unusedVariables false
set_option linter.unusedSimpArgs false
namespace Go.Proofs.Ytjmhffbenbiieaa.Ev
open Go.RowKit

def inD (st0 : St) (es : List Ent) (D : Nat → Bool) (r : Nat) : Prop := r < st0.nx ∨ ∃ e ∈ es, D e.i = true ∧ e.lo ≤ r ∧ r < e.hi
def scIn (p : Nat → Prop) : SC → Prop
  | .ref r _ => p r
  | .ptr o _ => p o
  | .eptr r _ _ => p r
  | .clo _ os => ∀ o ∈ os, p o
  | _ => True
theorem scIn.imp {p q : Nat → Prop} (h : ∀ r, p r → q r) {c : SC} (hc : scIn p c) : scIn q c := by
  cases c with
  | ref r n => exact h _ hc
  | ptr o off => exact h _ hc
  | eptr r i j => exact h _ hc
  | clo f os => exact fun o ho => h _ (hc o ho)
  | _ => trivial

/-- The machine, when the operations of D have been done. -/
structure Reach (C : Cx) (w0 : World) (F : Nat → Prop) (G : List Nat) (U : List Value) (nt : Nat) (st0 : St) (es : List Ent) (n : Nat) (D : Nat → Bool) (ρ : Rho) (a : Act) (w : World) : Prop where
  frm : Frm w0 F w
  row : ∀ r row, look (full st0 es n).rw r = some row → inD st0 es D r → rowOk C.P w0 F w (ρ.rs r) row
  ob : ∀ o ob, look (full st0 es n).ob o = some ob → inD st0 es D o → obOk w0 F ρ (full st0 es n) w (ρ.os o) ob
  rr : ∀ r r' row row', look (full st0 es n).rw r = some row → look (full st0 es n).rw r' = some row' → inD st0 es D r → inD st0 es D r' → (row.own = true ∨ row'.own = true) → r ≠ r' → ∀ b, rblk row (ρ.rs r) = some b → rblk row' (ρ.rs r') ≠ some b
  oo : ∀ o o' ob ob', look (full st0 es n).ob o = some ob → look (full st0 es n).ob o' = some ob' → inD st0 es D o → inD st0 es D o' → (ob.own = true ∨ ob'.own = true) → o ≠ o' → ρ.os o ≠ ρ.os o'
  ro : ∀ r o row ob, look (full st0 es n).rw r = some row → look (full st0 es n).ob o = some ob → inD st0 es D r → inD st0 es D o → (row.own = true ∨ ob.own = true) → rblk row (ρ.rs r) ≠ some (ρ.os o)
  size : a.tmps.size = nt
  defers : a.defers = []
  sl0 : ∀ t sv, look st0.sl t = some sv → svOk ρ (full st0 es n) (a.tmps.getD t undef) sv
  slD : ∀ e ∈ es, D e.i = true → ∀ t, e.add.d = some t → svOk ρ (full st0 es n) (a.tmps.getD t undef) e.add.s
  nms : ∀ e ∈ es, D e.i = true → (svAll (scIn (inD st0 es D)) e.add.s ∧ svLt e.hi e.add.s) ∧ ∀ p ∈ e.add.ob, ∀ c ∈ p.2.cs, scIn (inD st0 es D) c ∧ scLt e.hi c
  pins : st0.po.map ρ.os = G
  pinr : st0.pr.map ρ.rs = U

section
variable {C : Cx} {w0 : World} {F : Nat → Prop} {G : List Nat} {U : List Value} {nt : Nat} {st0 : St} {es : List Ent} {n : Nat} {D : Nat → Bool} {ρ : Rho} {a : Act} {w : World}

theorem small_row (hB : Base st0) (hW : WfE st0 es n) {pre : List Ent} {ps : List Nat} {kn : Kn} {lo : Nat} (hpre : ∀ e ∈ pre, e ∈ es ∧ e.hi ≤ lo) (hps : ∀ j, memB ps j = true → D j = true) (hlo : st0.nx ≤ lo) {r : Nat} {row : Row} (h : look (small st0 pre ps kn lo).rw r = some row) :
    ∃ row0, look (full st0 es n).rw r = some row0 ∧ row = { row0 with own := false } ∧ inD st0 es D r ∧ r < lo := by
  simp only [small] at h
  rw [look_roR] at h
  simp only [Option.map_eq_some_iff] at h
  obtain ⟨row0, h, rfl⟩ := h
  rw [look_append] at h
  split at h
  · rename_i v hv
    injection h with h; subst h
    obtain ⟨e, h1, h2⟩ := adRw_mem (look_mem hv)
    obtain ⟨h3, h4⟩ := pickE_mem h1
    have h5 := (hpre e h3).1
    have h6 := hW.rws e h5 _ h2
    refine ⟨v, ?_, rfl, .inr ⟨e, h5, hps _ h4, h6.1, h6.2.1⟩, ?_⟩
    · rw [full_row_e hB hW h5 h6.1 h6.2.1, ← hv]
      exact (ad_row (fun x hx => hW.rws x (hpre x (pickE_mem hx).1).1) (fun x hx y hy => hW.disj x (hpre x (pickE_mem hx).1).1 y (hpre y (pickE_mem hy).1).1) h1 h6.1 h6.2.1).symm
    · have := (hpre e h3).2; have := h6.2.1; simp only at this; omega
  · have h1 := hB.rlt r row0 h
    exact ⟨row0, by rw [full_row0 hW h1]; exact h, rfl, .inl h1, by omega⟩
theorem small_ob (hB : Base st0) (hW : WfE st0 es n) {pre : List Ent} {ps : List Nat} {kn : Kn} {lo : Nat} (hpre : ∀ e ∈ pre, e ∈ es ∧ e.hi ≤ lo) (hps : ∀ j, memB ps j = true → D j = true) (hlo : st0.nx ≤ lo) {r : Nat} {row : Ob} (h : look (small st0 pre ps kn lo).ob r = some row) :
    ∃ row0, look (full st0 es n).ob r = some row0 ∧ row = { row0 with own := false } ∧ inD st0 es D r ∧ r < lo ∧ ((look st0.ob r = some row0) ∨ ∃ e ∈ es, D e.i = true ∧ e.hi ≤ lo ∧ (r, row0) ∈ e.add.ob) := by
  simp only [small] at h
  rw [look_roO] at h
  simp only [Option.map_eq_some_iff] at h
  obtain ⟨row0, h, rfl⟩ := h
  rw [look_append] at h
  split at h
  · rename_i v hv
    injection h with h; subst h
    obtain ⟨e, h1, h2⟩ := adOb_mem (look_mem hv)
    obtain ⟨h3, h4⟩ := pickE_mem h1
    have h5 := (hpre e h3).1
    have h6 := hW.obs e h5 _ h2
    refine ⟨v, ?_, rfl, .inr ⟨e, h5, hps _ h4, h6.1, h6.2.1⟩, ?_, .inr ⟨e, h5, hps _ h4, (hpre e h3).2, h2⟩⟩
    · rw [full_ob_e hB hW h5 h6.1 h6.2.1, ← hv]
      exact (ad_ob (fun x hx => hW.obs x (hpre x (pickE_mem hx).1).1) (fun x hx y hy => hW.disj x (hpre x (pickE_mem hx).1).1 y (hpre y (pickE_mem hy).1).1) h1 h6.1 h6.2.1).symm
    · have := (hpre e h3).2; have := h6.2.1; simp only at this; omega
  · have h1 := hB.olt r row0 h
    exact ⟨row0, by rw [full_ob0 hW h1]; exact h, rfl, .inl h1, by omega, .inl h⟩
theorem sc_small (hB : Base st0) (hW : WfE st0 es n) {pre : List Ent} {ps : List Nat} {kn : Kn} {lo : Nat} (hpre : ∀ e ∈ pre, e ∈ es ∧ e.hi ≤ lo) (hps : ∀ j, memB ps j = true → D j = true) (hlo : st0.nx ≤ lo) (v : Value) (c : SC) (h : scOk ρ (full st0 es n) v c) (hl : scLt lo c) : scOk ρ (small st0 pre ps kn lo) v c := by
  cases c with
  | val x => exact h
  | ref r m =>
    refine ⟨hl, fun row hrow => ?_⟩
    obtain ⟨row0, h1, rfl, _⟩ := small_row hB hW hpre hps hlo hrow
    exact h.2 row0 h1
  | eptr r i j =>
    refine ⟨hl, fun row hrow => ?_⟩
    obtain ⟨row0, h1, rfl, _⟩ := small_row hB hW hpre hps hlo hrow
    exact h.2 row0 h1
  | ptr o off =>
    refine ⟨hl, fun row hrow => ?_⟩
    obtain ⟨row0, h1, rfl, _⟩ := small_ob hB hW hpre hps hlo hrow
    exact h.2 row0 h1
  | clo f os =>
    refine ⟨hl, fun hs => h.2 fun o ho => ?_⟩
    have := hs o ho
    rw [Option.isSome_iff_exists] at this
    obtain ⟨row, hrow⟩ := this
    obtain ⟨row0, h1, _⟩ := small_ob hB hW hpre hps hlo hrow
    rw [h1]; rfl
  | undef => trivial

theorem Reach.small (hB : Base st0) (hW : WfE st0 es n) (h : Reach C w0 F G U nt st0 es n D ρ a w) {pre : List Ent} {ps : List Nat} {kn : Kn} {lo : Nat} (hpre : ∀ e ∈ pre, e ∈ es ∧ e.hi ≤ lo) (hps : ∀ j, memB ps j = true → D j = true) (hlo : st0.nx ≤ lo)
    (hkn : ∀ g t b, (g, t, b) ∈ kn → memB ps g = true → ∃ e ∈ es, e.i = g ∧ e.add.d = some t ∧ e.add.s = .pv (.one (.val (.bool b)))) :
    Rel C.P w (fun _ => False) ((List.range lo).map ρ.os) ((List.range lo).map ρ.rs) nt ρ (small st0 pre ps kn lo) a w := by
  have key := sc_small (ρ := ρ) hB hW (kn := kn) hpre hps hlo
  refine ⟨⟨Frm.refl _ _, fun r row e => ?_, fun o ob e => ?_, fun r row e => ?_, fun o ob e => ?_, fun r r' row row' e e' ow => ?_, fun o o' ob ob' e e' ow => ?_, fun r o row ob e e' ow => ?_⟩, h.size, h.defers, fun t sv e => ?_, rfl, rfl⟩
  · obtain ⟨_, _, _, _, h4⟩ := small_row hB hW hpre hps hlo e; exact h4
  · obtain ⟨_, _, _, _, h4, _⟩ := small_ob hB hW hpre hps hlo e; exact h4
  · obtain ⟨row0, h1, rfl, h3, _⟩ := small_row hB hW hpre hps hlo e
    have := h.row r row0 h1 h3
    refine ⟨this.1, ?_⟩
    rw [if_neg (by simp)]
    exact row_rd (row := row0) this
  · obtain ⟨ob0, h1, rfl, h3, h4, h5⟩ := small_ob hB hW hpre hps hlo e
    obtain ⟨_, vs, g1, g2⟩ := h.ob o ob0 h1 h3
    refine ⟨fun e => by simp at e, vs, g1, g2.imp fun x y hy hh => key x y hh ?_⟩
    rcases h5 with h5 | ⟨e', q1, q2, q3, q4⟩
    · have := hB.clt o ob0 h5 y hy
      cases y with
      | ref r m => exact Nat.lt_of_lt_of_le this hlo
      | ptr r m => exact Nat.lt_of_lt_of_le this hlo
      | eptr r i j => exact Nat.lt_of_lt_of_le this hlo
      | clo f os => exact fun o ho => Nat.lt_of_lt_of_le (this o ho) hlo
      | _ => trivial
    · have := ((h.nms e' q1 q2).2 _ q4 y hy).2
      cases y with
      | ref r m => exact Nat.lt_of_lt_of_le this q3
      | ptr r m => exact Nat.lt_of_lt_of_le this q3
      | eptr r i j => exact Nat.lt_of_lt_of_le this q3
      | clo f os => exact fun o ho => Nat.lt_of_lt_of_le (this o ho) q3
      | _ => trivial
  · obtain ⟨row0, _, rfl, _⟩ := small_row hB hW hpre hps hlo e
    obtain ⟨row1, _, rfl, _⟩ := small_row hB hW hpre hps hlo e'
    simp at ow
  · obtain ⟨row0, _, rfl, _⟩ := small_ob hB hW hpre hps hlo e
    obtain ⟨row1, _, rfl, _⟩ := small_ob hB hW hpre hps hlo e'
    simp at ow
  · obtain ⟨row0, _, rfl, _⟩ := small_row hB hW hpre hps hlo e
    obtain ⟨row1, _, rfl, _⟩ := small_ob hB hW hpre hps hlo e'
    simp at ow
  · have ltmono : ∀ {k : Nat} {s : SV}, svLt k s → k ≤ lo → svLt lo s := fun hs hk => svAll.imp (fun c hc => by
      cases c with
      | ref r m => exact Nat.lt_of_lt_of_le hc hk
      | ptr r m => exact Nat.lt_of_lt_of_le hc hk
      | eptr r i j => exact Nat.lt_of_lt_of_le hc hk
      | clo f os => exact fun o ho => Nat.lt_of_lt_of_le (hc o ho) hk
      | _ => trivial) hs
    simp only [Ev.small] at e
    rw [look_append] at e
    split at e
    · rename_i v hv
      injection e with e; subst e
      have : ∀ {kn : Kn}, (∀ g t b, (g, t, b) ∈ kn → memB ps g = true → ∃ e ∈ es, e.i = g ∧ e.add.d = some t ∧ e.add.s = .pv (.one (.val (.bool b)))) → look (kSl kn ps) t = some v → ∃ b, v = .pv (.one (.val (.bool b))) ∧ ∃ e ∈ es, memB ps e.i = true ∧ e.add.d = some t ∧ e.add.s = v := by
        intro kn
        clear hv hkn key
        induction kn with
        | nil => intro _ hv; cases hv
        | cons q l ih =>
          intro hkn hv
          obtain ⟨g, t', b⟩ := q
          simp only [kSl] at hv
          split at hv
          · rename_i hm
            simp only [look] at hv
            split at hv
            · rename_i e1; subst e1
              simp only [Option.some.injEq] at hv; subst hv
              obtain ⟨e, h1, h2, h3, h4⟩ := hkn g t' b (by simp) hm
              exact ⟨b, rfl, e, h1, by rw [h2]; exact hm, h3, h4⟩
            · exact ih (fun g t b hmem => hkn g t b (by simp [hmem])) hv
          · exact ih (fun g t b hmem => hkn g t b (by simp [hmem])) hv
      obtain ⟨b, rfl, e, h1, h2, h3, h4⟩ := this hkn hv
      have := h.slD e h1 (hps _ h2) t h3
      rw [h4] at this
      exact this
    · rw [look_append] at e
      split at e
      · rename_i v hv
        injection e with e; subst e
        obtain ⟨e, h1, h2, rfl⟩ := adSl_mem hv
        obtain ⟨h3, h4⟩ := pickE_mem h1
        have h5 := (hpre e h3).1
        exact svOk.tr key (h.slD e h5 (hps _ h4) t h2) (ltmono (h.nms e h5 (hps _ h4)).1.2 (hpre e h3).2)
      · exact svOk.tr key (h.sl0 t sv e) (ltmono (hB.slt t sv e) hlo)

theorem upon_put {P : Program} {o : Oper} {K : Act → World → Prop} {Q : Exit → Act → World → Prop} (h : o.wp P a w K Q) : o.wp P a w (fun a' w' => K a' w' ∧ (∃ v, ∀ t, a'.tmps.getD t undef = (a.put o.dst v).tmps.getD t undef)) Q := by
  unfold Oper.wp at *
  generalize (execOp a.eval o).run P w = r at *
  cases r with
  | ok nn w' =>
    cases nn with
    | value v => exact ⟨h, v, fun t => rfl⟩
    | skip => exact ⟨h, _, fun t => rfl⟩
    | defer d => exact ⟨h, undef, fun t => by cases o.dst <;> rfl⟩
    | enter f args =>
      refine Calls.mono h fun e w'' he => ?_
      cases e with
      | returned u => exact ⟨he, u, fun t => rfl⟩
      | _ => exact he
    | row row args => exact Rows.mono h fun u w'' he => ⟨he, u, fun t => rfl⟩
    | _ => exact h
  | halt x w' => cases x <;> exact h

theorem getD_put_ne {a : Act} {d : Option Nat} {v : Value} {t : Nat} (h : ∀ s, d = some s → s ≠ t) : (a.put d v).tmps.getD t undef = a.tmps.getD t undef := by
  cases d with
  | none => rfl
  | some s =>
    simp only [Act.put, Array.getD_eq_getD_getElem?]
    rw [Array.getElem?_setIfInBounds_ne (h s rfl)]

/-- An operation is done, whatever has been done already. -/
theorem Reach.step (hC : C.Ok) (hG : GOk C w0 F) (hB : Base st0) (hW : WfE st0 es n) {e : Ent} (he : e ∈ es) (hnd : D e.i = false) {pre : List Ent} {kn : Kn} {o : Oper} {st' : St}
    (hpre : ∀ x ∈ pre, x ∈ es ∧ x.hi ≤ e.lo) (hps : ∀ j, memB e.ps j = true → D j = true) (hkn : ∀ g t b, (g, t, b) ∈ kn → memB e.ps g = true → ∃ x ∈ es, x.i = g ∧ x.add.d = some t ∧ x.add.s = .pv (.one (.val (.bool b))))
    (hl : Leads C nt (Ev.small st0 pre e.ps kn e.lo) o st') (hpo : st'.po = (Ev.small st0 pre e.ps kn e.lo).po) (hpr : st'.pr = (Ev.small st0 pre e.ps kn e.lo).pr) (hok : addOk (Ev.small st0 pre e.ps kn e.lo) e.lo o st' = true) (hadd : e.add = addOf e.lo o st') (hhi : e.hi = st'.nx)
    {D' : Nat → Bool} (hD' : ∀ j, D' j = true ↔ D j = true ∨ j = e.i) (h : Reach C w0 F G U nt st0 es n D ρ a w) :
    o.wp C.P a w (fun a' w' => ∃ ρ', Reach C w0 F G U nt st0 es n D' ρ' a' w') fun _ _ _ => False := by
  have hrng := hW.rng e he
  have hsm := h.small hB hW (kn := kn) hpre hps hrng.1 hkn
  have hgl : GOk C w (fun _ => False) := ⟨hG.frm hC h.frm, fun b hb => hb.elim⟩
  have hwf : Wf (Ev.small st0 pre e.ps kn e.lo) := ⟨fun o ho => by simpa [Ev.small] using ho, fun o ho => by simpa [Ev.small] using ho⟩
  refine Oper.wp_mono (fun a' w' hh => ?_) (upon_put (hl _ _ _ _ _ _ _ hgl hsm hwf))
  obtain ⟨⟨_, ρ', hr⟩, v, hv⟩ := hh
  -- what addOk says
  have hok' : (oldR e.lo (Ev.small st0 pre e.ps kn e.lo).rw st'.rw = true ∧ oldO e.lo (Ev.small st0 pre e.ps kn e.lo).ob st'.ob = true ∧ e.lo ≤ st'.nx) ∧ okRs st'.nx (newR e.lo st'.rw) = true ∧ okOs st' st'.nx (newO e.lo st'.ob) = true ∧ (∀ t, o.dst = some t → liveV st' (ev st' (.tmp t)) = true) := by
    unfold addOk at hok
    split at hok
    · rename_i h1
      simp only [Bool.and_eq_true] at h1
      split at hok
      · rename_i h2
        split at hok
        · rename_i h3
          refine ⟨⟨h1.1.1, h1.1.2, Nat.le_of_ble_eq_true h1.2⟩, h2, h3, fun t ht => ?_⟩
          rw [ht] at hok; exact hok
        · cases hok
      · cases hok
    · cases hok
  obtain ⟨⟨k1, k2, k3⟩, k4, k5, k6⟩ := hok'
  have hdst : e.add.d = o.dst := by rw [hadd]; rfl
  have hsz : w.heap.size ≤ w'.heap.size := hr.mem.frm.size
  have hblk : ∀ k, k < w.heap.size → w'.heap[k]? = w.heap[k]? := fun k hk => hr.mem.frm.block k hk fun hf => hf
  have hpin : ∀ r, r < e.lo → ρ'.rs r = ρ.rs r := by
    intro r hr1
    have := hr.pinr
    rw [hpr] at this
    have := congrArg (fun l => l[r]?) this
    simpa [Ev.small, hr1] using this
  have hpin' : ∀ r, r < e.lo → ρ'.os r = ρ.os r := by
    intro r hr1
    have := hr.pins
    rw [hpo] at this
    have := congrArg (fun l => l[r]?) this
    simpa [Ev.small, hr1] using this
  let ρB : Rho := { rs := fun r => if e.lo ≤ r ∧ r < e.hi then ρ'.rs r else ρ.rs r, os := fun r => if e.lo ≤ r ∧ r < e.hi then ρ'.os r else ρ.os r }
  have bnew : ∀ r, e.lo ≤ r → r < e.hi → ρB.rs r = ρ'.rs r ∧ ρB.os r = ρ'.os r := fun r h1 h2 => ⟨if_pos ⟨h1, h2⟩, if_pos ⟨h1, h2⟩⟩
  have bold : ∀ r, ¬ (e.lo ≤ r ∧ r < e.hi) → ρB.rs r = ρ.rs r ∧ ρB.os r = ρ.os r := fun r h1 => ⟨if_neg h1, if_neg h1⟩
  have hnot : ∀ r, inD st0 es D r → ¬ (e.lo ≤ r ∧ r < e.hi) := by
    intro r hr1 hr2
    rcases hr1 with hr1 | ⟨x, x1, x2, x3, x4⟩
    · omega
    · have := hW.disj e he x x1 r hr2.1 hr2.2 x3 x4
      subst this; rw [hnd] at x2; cases x2
  have hin' : ∀ r, inD st0 es D' r → inD st0 es D r ∨ (e.lo ≤ r ∧ r < e.hi) := by
    intro r hr1
    rcases hr1 with hr1 | ⟨x, x1, x2, x3, x4⟩
    · exact .inl (.inl hr1)
    · rcases (hD' x.i).1 x2 with x5 | x5
      · exact .inl (.inr ⟨x, x1, x5, x3, x4⟩)
      · have := hW.ids x x1 e he x5
        subst this; exact .inr ⟨x3, x4⟩
  have hmono : ∀ r, inD st0 es D r → inD st0 es D' r := by
    intro r hr1
    rcases hr1 with hr1 | ⟨x, x1, x2, x3, x4⟩
    · exact .inl hr1
    · exact .inr ⟨x, x1, (hD' x.i).2 (.inl x2), x3, x4⟩
  have hnewin : ∀ r, e.lo ≤ r → r < e.hi → inD st0 es D' r := fun r h1 h2 => .inr ⟨e, he, (hD' e.i).2 (.inr rfl), h1, h2⟩
  -- new rows, new objects
  have rowE : ∀ r row, e.lo ≤ r → r < e.hi → look (full st0 es n).rw r = some row → look st'.rw r = some row ∧ row.own = true := by
    intro r row h1 h2 h3
    rw [full_row_e hB hW he h1 h2] at h3
    have h5 := (hW.rws e he _ (look_mem h3)).2.2
    rw [hadd] at h3
    simp only [addOf] at h3
    rw [look_newR, if_pos h1] at h3
    exact ⟨h3, h5⟩
  have obE : ∀ r ob, e.lo ≤ r → r < e.hi → look (full st0 es n).ob r = some ob → look st'.ob r = some ob ∧ ob.own = true ∧ ∀ c ∈ ob.cs, liveC st' c = true := by
    intro r ob h1 h2 h3
    rw [full_ob_e hB hW he h1 h2] at h3
    have h5 := (hW.obs e he _ (look_mem h3)).2.2
    rw [hadd] at h3
    simp only [addOf] at h3
    have h6 := (okOs_ok k5 _ (look_mem h3)).2.2
    rw [look_newO, if_pos h1] at h3
    exact ⟨h3, h5, h6⟩
  have rowS : ∀ r row, look st'.rw r = some row → (e.lo ≤ r ∧ r < e.hi ∧ look (full st0 es n).rw r = some row) ∨ (r < e.lo ∧ inD st0 es D r ∧ ∃ row0, look (full st0 es n).rw r = some row0 ∧ row.el.sz = row0.el.sz ∧ row.xs.length = row0.xs.length) := by
    intro r row hrow
    rcases Nat.lt_or_ge r e.lo with hlt | hge
    · obtain ⟨row1, h1, h2⟩ := oldR_ok k1 _ (look_mem hrow) hlt
      obtain ⟨row0, h3, rfl, h4, _⟩ := small_row hB hW hpre hps hrng.1 h1
      refine .inr ⟨hlt, h4, row0, h3, h2, ?_⟩
      obtain ⟨A, c, g1, _⟩ := row_rd (hr.mem.row r row hrow)
      obtain ⟨A', c', g2, _⟩ := row_rd (h.row r row0 h3 h4)
      rw [hpin r hlt, g2] at g1
      injection g1 with _ g3 _
      exact g3.symm
    · have h1 : look (newR e.lo st'.rw) r = some row := by rw [look_newR, if_pos hge]; exact hrow
      have h2 := (okRs_ok k4 _ (look_mem h1)).1
      refine .inl ⟨hge, by rw [hhi]; exact h2, ?_⟩
      rw [full_row_e hB hW he hge (by rw [hhi]; exact h2), hadd]
      exact h1
  have obS : ∀ r ob, look st'.ob r = some ob → (e.lo ≤ r ∧ r < e.hi) ∨ (r < e.lo ∧ inD st0 es D r) := by
    intro r ob hob
    rcases Nat.lt_or_ge r e.lo with hlt | hge
    · obtain ⟨row1, h1⟩ := oldO_ok k2 _ (look_mem hob) hlt
      obtain ⟨row0, h3, _, h4, _⟩ := small_ob hB hW hpre hps hrng.1 h1
      exact .inr ⟨hlt, h4⟩
    · have h1 : look (newO e.lo st'.ob) r = some ob := by rw [look_newO, if_pos hge]; exact hob
      have h2 := (okOs_ok k5 _ (look_mem h1)).1
      exact .inl ⟨hge, by rw [hhi]; exact h2⟩
  -- what was said stays
  have old_sc : ∀ v c, scOk ρ (full st0 es n) v c → scIn (inD st0 es D) c → scOk ρB (full st0 es n) v c := by
    intro v c hc hi
    cases c with
    | val x => exact hc
    | ref r m => exact ⟨hc.1, fun row hrow => by rw [(bold r (hnot r hi)).1]; exact hc.2 row hrow⟩
    | eptr r i j => exact ⟨hc.1, fun row hrow => by rw [(bold r (hnot r hi)).1]; exact hc.2 row hrow⟩
    | ptr o off => exact ⟨hc.1, fun row hrow => by rw [(bold o (hnot o hi)).2]; exact hc.2 row hrow⟩
    | clo f os =>
      refine ⟨hc.1, fun hs => ?_⟩
      rw [hc.2 hs]
      congr 2
      apply List.map_congr_left
      intro o ho
      rw [(bold o (hnot o (hi o ho))).2]
    | undef => trivial
  -- what is said anew
  have new_sc : ∀ v c, scOk ρ' st' v c → liveC st' c = true → scOk ρB (full st0 es n) v c := by
    intro v c hc hlv
    have hn : ∀ r, r < e.hi → r < n := fun r hr1 => Nat.lt_of_lt_of_le hr1 hrng.2.2
    cases c with
    | val x => exact hc
    | ref r m =>
      simp only [liveC, St.live, Option.isSome_iff_exists] at hlv
      obtain ⟨row, hrow⟩ := hlv
      obtain ⟨A, m0, cp, g1, g2, g3⟩ := hc.2 row hrow
      rcases rowS r row hrow with ⟨h1, h2, h3⟩ | ⟨h1, h2, row0, h3, h4, h5⟩
      · refine ⟨hn r h2, fun row2 hrow2 => ?_⟩
        rw [h3] at hrow2; injection hrow2 with hrow2; subst hrow2
        exact ⟨A, m0, cp, by rw [(bnew r h1 h2).1, g1], g2, g3⟩
      · refine ⟨hn r (by omega), fun row2 hrow2 => ?_⟩
        rw [h3] at hrow2; injection hrow2 with hrow2; subst hrow2
        exact ⟨A, m0, cp, by rw [(bold r (hnot r h2)).1, ← hpin r h1, g1], g2, by omega⟩
    | eptr r i j =>
      simp only [liveC, St.live, Option.isSome_iff_exists] at hlv
      obtain ⟨row, hrow⟩ := hlv
      obtain ⟨ad, m0, cp, g1, g2, g3⟩ := hc.2 row hrow
      rcases rowS r row hrow with ⟨h1, h2, h3⟩ | ⟨h1, h2, row0, h3, h4, h5⟩
      · refine ⟨hn r h2, fun row2 hrow2 => ?_⟩
        rw [h3] at hrow2; injection hrow2 with hrow2; subst hrow2
        exact ⟨ad, m0, cp, by rw [(bnew r h1 h2).1, g1], g2, g3⟩
      · refine ⟨hn r (by omega), fun row2 hrow2 => ?_⟩
        rw [h3] at hrow2; injection hrow2 with hrow2; subst hrow2
        exact ⟨ad, m0, cp, by rw [(bold r (hnot r h2)).1, ← hpin r h1, g1], by rw [g2, h4], by omega⟩
    | ptr o off =>
      simp only [liveC, St.live, Option.isSome_iff_exists] at hlv
      obtain ⟨ob, hob⟩ := hlv
      have g := hc.2 ob hob
      rcases obS o ob hob with ⟨h1, h2⟩ | ⟨h1, h2⟩
      · exact ⟨hn o h2, fun _ _ => by rw [g, (bnew o h1 h2).2]⟩
      · exact ⟨hn o (by omega), fun _ _ => by rw [g, (bold o (hnot o h2)).2, hpin' o h1]⟩
    | clo f os =>
      have hlv : ∀ o ∈ os, (look st'.ob o).isSome = true := List.all_eq_true.1 hlv
      have hall : ∀ o ∈ os, o < n ∧ ρB.os o = ρ'.os o := by
        intro o ho
        have := hlv o ho
        rw [Option.isSome_iff_exists] at this
        obtain ⟨ob, hob⟩ := this
        rcases obS o ob hob with ⟨h1, h2⟩ | ⟨h1, h2⟩
        · exact ⟨hn o h2, (bnew o h1 h2).2⟩
        · exact ⟨hn o (by omega), by rw [(bold o (hnot o h2)).2, hpin' o h1]⟩
      refine ⟨fun o ho => (hall o ho).1, fun _ => ?_⟩
      rw [hc.2 hlv]
      congr 2
      apply List.map_congr_left
      intro o ho
      rw [(hall o ho).2]
    | undef => trivial
  have new_in : ∀ c, liveC st' c = true → scIn (inD st0 es D') c ∧ scLt e.hi c := by
    intro c hlv
    have hr1 : ∀ r, (look st'.rw r).isSome = true → inD st0 es D' r ∧ r < e.hi := by
      intro r hs
      rw [Option.isSome_iff_exists] at hs
      obtain ⟨row, hrow⟩ := hs
      rcases rowS r row hrow with ⟨h1, h2, _⟩ | ⟨h1, h2, _⟩
      · exact ⟨hnewin r h1 h2, h2⟩
      · exact ⟨hmono r h2, by omega⟩
    have ho1 : ∀ r, (look st'.ob r).isSome = true → inD st0 es D' r ∧ r < e.hi := by
      intro r hs
      rw [Option.isSome_iff_exists] at hs
      obtain ⟨row, hrow⟩ := hs
      rcases obS r row hrow with ⟨h1, h2⟩ | ⟨h1, h2⟩
      · exact ⟨hnewin r h1 h2, h2⟩
      · exact ⟨hmono r h2, by omega⟩
    cases c with
    | ref r m => exact hr1 r hlv
    | eptr r i j => exact hr1 r hlv
    | ptr o off => exact ho1 o hlv
    | clo f os =>
      have hlv : ∀ o ∈ os, (look st'.ob o).isSome = true := List.all_eq_true.1 hlv
      exact ⟨fun o ho => (ho1 o (hlv o ho)).1, fun o ho => (ho1 o (hlv o ho)).2⟩
    | _ => exact ⟨trivial, trivial⟩
  have st0in : ∀ {c : SC}, scLt st0.nx c → scIn (inD st0 es D) c := by
    intro c hc
    cases c with
    | ref r m => exact .inl hc
    | eptr r i j => exact .inl hc
    | ptr o off => exact .inl hc
    | clo f os => exact fun o ho => .inl (hc o ho)
    | _ => trivial
  have tmps : ∀ t, (∀ s, o.dst = some s → s ≠ t) → a'.tmps.getD t undef = a.tmps.getD t undef := fun t ht => by rw [hv t, getD_put_ne ht]
  have hoblt : ∀ o' ob, look (full st0 es n).ob o' = some ob → inD st0 es D o' → ρ.os o' < w.heap.size := fun o' ob h1 h2 => by
    obtain ⟨_, vs, g, _⟩ := h.ob o' ob h1 h2; exact lt_of_some g
  have newblk : ∀ r row, e.lo ≤ r → r < e.hi → look (full st0 es n).rw r = some row → ∀ b, rblk row (ρ'.rs r) = some b → w.heap.size ≤ b := by
    intro r row h1 h2 h3 b hb
    obtain ⟨h4, h5⟩ := rowE r row h1 h2 h3
    have := (hr.mem.row r row h4).2
    rw [if_pos h5] at this
    rcases this.2 b (by simpa [rblk, h5] using hb) with h6 | h6
    · exact h6
    · exact h6.elim
  have newob : ∀ r ob, e.lo ≤ r → r < e.hi → look (full st0 es n).ob r = some ob → w.heap.size ≤ ρ'.os r := by
    intro r ob h1 h2 h3
    obtain ⟨h4, h5, _⟩ := obE r ob h1 h2 h3
    rcases (hr.mem.ob r ob h4).1 h5 with h6 | h6
    · exact h6
    · exact h6.elim
  refine ⟨ρB, ⟨h.frm.none hr.mem.frm (fun b hb => hb), fun r row e1 hi => ?_, fun o1 ob e1 hi => ?_, fun r r' row row' e1 e2 hi hi' ow hne b hb => ?_, fun o1 o2 ob ob' e1 e2 hi hi' ow hne => ?_, fun r o1 row ob e1 e2 hi hi' ow => ?_, hr.size, hr.defers, fun t sv e1 => ?_, fun x hx hxD t ht => ?_, fun x hx hxD => ?_, ?_, ?_⟩⟩
  · rcases hin' r hi with h1 | ⟨h1, h2⟩
    · rw [(bold r (hnot r h1)).1]
      exact (h.row r row e1 h1).same fun b hb => hblk b ((h.row r row e1 h1).lt b hb)
    · rw [(bnew r h1 h2).1]
      obtain ⟨h4, h5⟩ := rowE r row h1 h2 e1
      obtain ⟨g1, g2⟩ := hr.mem.row r row h4
      refine ⟨g1, ?_⟩
      rw [if_pos h5] at g2 ⊢
      exact ⟨g2.1, fun b hb => .inl (Nat.le_trans h.frm.size (by rcases g2.2 b hb with h6 | h6; · exact h6
                                                                 · exact h6.elim))⟩
  · rcases hin' o1 hi with h1 | ⟨h1, h2⟩
    · rw [(bold o1 (hnot o1 h1)).2]
      obtain ⟨g1, vs, g2, g3⟩ := h.ob o1 ob e1 h1
      refine ⟨g1, vs, (hblk _ (lt_of_some g2)).trans g2, g3.imp fun x y hy hh => old_sc x y hh ?_⟩
      rcases full_ob_in hB hW e1 with q | ⟨x, q1, q2, q3⟩
      · rw [full_ob0 hW q] at e1; exact st0in (hB.clt o1 ob e1 y hy)
      · rcases h1 with q | ⟨x', q1', q2', q3', q4'⟩
        · rw [full_ob0 hW q] at e1; exact st0in (hB.clt o1 ob e1 y hy)
        · have := hW.disj x q1 x' q1' o1 q2 q3 q3' q4'
          subst this
          rw [full_ob_e hB hW q1 q2 q3] at e1
          exact ((h.nms x q1 q2').2 _ (look_mem e1) y hy).1
    · rw [(bnew o1 h1 h2).2]
      obtain ⟨h4, h5, h6⟩ := obE o1 ob h1 h2 e1
      obtain ⟨g1, vs, g2, g3⟩ := hr.mem.ob o1 ob h4
      exact ⟨fun q => .inl (Nat.le_trans h.frm.size (newob o1 ob h1 h2 e1)), vs, g2, g3.imp fun x y hy hh => new_sc x y hh (h6 y hy)⟩
  · rcases hin' r hi with h1 | ⟨h1, h2⟩ <;> rcases hin' r' hi' with h1' | ⟨h1', h2'⟩
    · rw [(bold r (hnot r h1)).1] at hb; rw [(bold r' (hnot r' h1')).1]
      exact h.rr r r' row row' e1 e2 h1 h1' ow hne b hb
    · rw [(bold r (hnot r h1)).1] at hb; rw [(bnew r' h1' h2').1]
      intro hb'
      have := (h.row r row e1 h1).lt b hb
      have := newblk r' row' h1' h2' e2 b hb'
      omega
    · rw [(bnew r h1 h2).1] at hb; rw [(bold r' (hnot r' h1')).1]
      intro hb'
      have := (h.row r' row' e2 h1').lt b hb'
      have := newblk r row h1 h2 e1 b hb
      omega
    · rw [(bnew r h1 h2).1] at hb; rw [(bnew r' h1' h2').1]
      exact hr.mem.rr r r' row row' (rowE r row h1 h2 e1).1 (rowE r' row' h1' h2' e2).1 ow hne b hb
  · rcases hin' o1 hi with h1 | ⟨h1, h2⟩ <;> rcases hin' o2 hi' with h1' | ⟨h1', h2'⟩
    · rw [(bold o1 (hnot o1 h1)).2, (bold o2 (hnot o2 h1')).2]
      exact h.oo o1 o2 ob ob' e1 e2 h1 h1' ow hne
    · rw [(bold o1 (hnot o1 h1)).2, (bnew o2 h1' h2').2]
      have := hoblt o1 ob e1 h1
      have := newob o2 ob' h1' h2' e2
      omega
    · rw [(bnew o1 h1 h2).2, (bold o2 (hnot o2 h1')).2]
      have := hoblt o2 ob' e2 h1'
      have := newob o1 ob h1 h2 e1
      omega
    · rw [(bnew o1 h1 h2).2, (bnew o2 h1' h2').2]
      exact hr.mem.oo o1 o2 ob ob' (obE o1 ob h1 h2 e1).1 (obE o2 ob' h1' h2' e2).1 ow hne
  · rcases hin' r hi with h1 | ⟨h1, h2⟩ <;> rcases hin' o1 hi' with h1' | ⟨h1', h2'⟩
    · rw [(bold r (hnot r h1)).1, (bold o1 (hnot o1 h1')).2]
      exact h.ro r o1 row ob e1 e2 h1 h1' ow
    · rw [(bold r (hnot r h1)).1, (bnew o1 h1' h2').2]
      intro hb
      have := (h.row r row e1 h1).lt _ hb
      have := newob o1 ob h1' h2' e2
      omega
    · rw [(bnew r h1 h2).1, (bold o1 (hnot o1 h1')).2]
      intro hb
      have := hoblt o1 ob e2 h1'
      have := newblk r row h1 h2 e1 _ hb
      omega
    · rw [(bnew r h1 h2).1, (bnew o1 h1' h2').2]
      exact hr.mem.ro r o1 row ob (rowE r row h1 h2 e1).1 (obE o1 ob h1' h2' e2).1 ow
  · rw [tmps t fun s hs e2 => ?_]
    · exact svOk.tr old_sc (h.sl0 t sv e1) (svAll.imp (fun c => st0in) (hB.slt t sv e1))
    · subst e2
      have := hW.dst0 e he s (by rw [hdst]; exact hs)
      rw [this] at e1; cases e1
  · rcases (hD' x.i).1 hxD with h1 | h1
    · rw [tmps t fun s hs e2 => ?_]
      · exact svOk.tr old_sc (h.slD x hx h1 t ht) (h.nms x hx h1).1.1
      · subst e2
        have := hW.dst x hx e he s ht (by rw [hdst]; exact hs)
        subst this; rw [hnd] at h1; cases h1
    · have := hW.ids x hx e he h1
      subst this
      rw [hadd] at ht ⊢
      simp only [addOf] at ht ⊢
      rw [ht]
      have h2 := ev_ok hr (.tmp t)
      exact svOk.tr new_sc h2 (live_all (k6 t ht))
  · rcases (hD' x.i).1 hxD with h1 | h1
    · obtain ⟨⟨g1, g2⟩, g3⟩ := h.nms x hx h1
      exact ⟨⟨svAll.imp (fun c hc => hc.imp hmono) g1, g2⟩, fun p hp c hc => ⟨(g3 p hp c hc).1.imp hmono, (g3 p hp c hc).2⟩⟩
    · have := hW.ids x hx e he h1
      subst this
      refine ⟨?_, fun p hp c hc => ?_⟩
      · rw [hadd]
        simp only [addOf]
        cases hd : o.dst with
        | none => exact ⟨trivial, trivial⟩
        | some t =>
          have hl := live_all (k6 t hd)
          exact ⟨svAll.imp (fun c hc => (new_in c hc).1) hl, svAll.imp (fun c hc => (new_in c hc).2) hl⟩
      · rw [hadd] at hp
        exact new_in c ((okOs_ok k5 p hp).2.2 c hc)
  · rw [← h.pins]
    apply List.map_congr_left
    intro q hq
    exact (bold q (hnot q (.inl (hB.po q hq)))).2
  · rw [← h.pinr]
    apply List.map_congr_left
    intro q hq
    exact (bold q (hnot q (.inl (hB.pr q hq)))).1
end
end Go.Proofs.Ytjmhffbenbiieaa.Ev
