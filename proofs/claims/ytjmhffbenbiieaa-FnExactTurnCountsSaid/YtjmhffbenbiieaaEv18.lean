/- Part 18: regions in any order, whose operations only read. -/
import Derived.Test.YtjmhffbenbiieaaEv17
set_option linter.unusedVariables false
set_option linter.unusedSimpArgs false
namespace Go.Proofs.Ytjmhffbenbiieaa.Ev
open Go.RowKit

/-! ### 1. What a state says in full -/
def St.det1 (st : St) : SC → Bool
  | .val _ => true
  | c => st.live c
def St.detP (st : St) : PV → Bool
  | .one c => st.det1 c
  | .agg cs => cs.all st.det1
def St.det (st : St) : SV → Bool
  | .pv p => st.detP p
  | .tup ps => ps.all st.detP

section
variable {C : Cx} {w0 : World} {F : Nat → Prop} {G : List Nat} {U : List Value} {nt : Nat} {ρ : Rho} {st : St} {a : Act} {w : World}

theorem det1_eq {u v : Value} {c : SC} (h : scOk ρ st u c) (h' : scOk ρ st v c) (hd : st.det1 c = true) : u = v := by
  cases c with
  | val x => exact Eq.trans h (Eq.symm h')
  | ref r n =>
    simp only [St.det1, St.live, Option.isSome_iff_exists] at hd
    obtain ⟨row, hr⟩ := hd
    obtain ⟨A, m, c, e1, e2, _⟩ := h.2 row hr
    obtain ⟨A', m', c', e1', e2', _⟩ := h'.2 row hr
    rw [e1] at e1'; injection e1' with e3 e4 e5
    rw [e2, e2', e3, e5]
  | ptr o off =>
    simp only [St.det1, St.live, Option.isSome_iff_exists] at hd
    obtain ⟨ob, hr⟩ := hd
    rw [h.2 ob hr, h'.2 ob hr]
  | eptr r i j =>
    simp only [St.det1, St.live, Option.isSome_iff_exists] at hd
    obtain ⟨row, hr⟩ := hd
    obtain ⟨A, m, c, e1, e2, _⟩ := h.2 row hr
    obtain ⟨A', m', c', e1', e2', _⟩ := h'.2 row hr
    rw [e1] at e1'; injection e1' with e3 e4 e5
    injection e3 with e3
    rw [e2, e2', e3]
  | clo f os =>
    have : ∀ o ∈ os, (look st.ob o).isSome := fun o ho => (List.all_eq_true.1 hd) o ho
    rw [h.2 this, h'.2 this]
  | undef => simp [St.det1, St.live] at hd
theorem all2_eq {β : Type _} {r : Value → β → Prop} {d : β → Bool} (hr : ∀ u v y, r u y → r v y → d y = true → u = v) : ∀ {us vs : List Value} {ys : List β}, All2 r us ys → All2 r vs ys → ys.all d = true → us = vs
  | _, _, _, .nil, .nil, _ => rfl
  | _, _, _, .cons h hs, .cons k ks, hd => by
    simp only [List.all_cons, Bool.and_eq_true] at hd
    rw [hr _ _ _ h k hd.1, all2_eq hr hs ks hd.2]
theorem detP_eq {u v : Value} {c : PV} (h : pvOk ρ st u c) (h' : pvOk ρ st v c) (hd : st.detP c = true) : u = v := by
  cases c with
  | one c => exact det1_eq h h' hd
  | agg cs =>
    obtain ⟨us, rfl, h1⟩ := h
    obtain ⟨vs, rfl, h2⟩ := h'
    rw [all2_eq (r := scOk ρ st) (d := st.det1) (fun _ _ _ => det1_eq) h1 h2 hd]
theorem det_eq {u v : Value} {c : SV} (h : svOk ρ st u c) (h' : svOk ρ st v c) (hd : st.det c = true) : u = v := by
  cases c with
  | pv p => exact detP_eq h h' hd
  | tup ps =>
    obtain ⟨us, rfl, h1⟩ := h
    obtain ⟨vs, rfl, h2⟩ := h'
    rw [all2_eq (r := pvOk ρ st) (d := st.detP) (fun _ _ _ => detP_eq) h1 h2 hd]

/-! ### 2. Calls that only read -/
def plainR : RC → Bool
  | .one (.val _) => true
  | .one _ => false
  | .agg cs => cs.all fun c => match c with
    | .val _ => true
    | _ => false
/-- What a call that only reads is asked for. -/
structure CallQ (C : Cx) (f : Nat) (args : List AC) (ho : List HO) (K : List RC → Prop) : Prop where
  ok : ∃ res ho', Ok C f args ho [] res ho' [] ∧ K res
theorem CallQ.of {C : Cx} {f : Nat} {args : List AC} {ho : List HO} {K : List RC → Prop} {res : List RC} {ho' : List HO} (h : Ok C f args ho [] res ho' []) (k : K res) : CallQ C f args ho K := ⟨res, ho', h, k⟩
theorem CallQ.at {C : Cx} {f : Nat} {args args0 : List AC} {ho ho0 : List HO} {K : List RC → Prop} {res : List RC} {ho' : List HO} (h : Ok C f args0 ho0 [] res ho' []) (k : K res) (e1 : args = args0 := by first | rfl | (simp; done)) (e2 : ho = ho0 := by first | rfl | (simp; done)) : CallQ C f args ho K := by
  subst e1; subst e2; exact CallQ.of h k
def callQ (C : Cx) (st : St) (f : Nat) (svs : List SV) (K : SV → Prop) : Prop :=
  let os := reach st 40 (svsObs svs) []
  match exHO st true os [] os, mapO (exA st os [] []) svs with
  | some ho, some args => CallQ C f args ho fun res => if res.all plainR = true then K (packS (imRs [] [] 0 res)) else False
  | _, _ => False
/-- What an operation that only reads comes to, a call too. -/
def qP (C : Cx) (nt : Nat) (st : St) (o : Oper) (K : St → Prop) : Prop :=
  if dOk nt o.dst = true then
    match o.op with
    | .call c => match c.callee with
      | .value x => match ev st x with
        | .pv (.one (.clo f os)) => if st.live (.clo f os) = true then callQ C st f (c.args.toList.map (ev st) ++ os.map fun o => .pv (.one (.ptr o 0))) fun s => if st.det s = true then K (st.putD o.dst s) else False else False
        | _ => False
      | _ => readP C st o fun s => if st.det s = true then K (st.putD o.dst s) else False
    | _ => readP C st o fun s => if st.det s = true then K (st.putD o.dst s) else False
  else False

theorem Frm.none {F' : Nat → Prop} {w' : World} (h : Frm w0 F w) (h' : Frm w F' w') (hF : ∀ b, ¬ F' b) : Frm w0 F w' := by
  refine ⟨h'.os.trans h.os, h'.tape.trans h.tape, h'.output.trans h.output, Nat.le_trans h.size h'.size, fun k hk hF1 => ?_⟩
  rw [h'.block k (Nat.lt_of_lt_of_le hk h.size) (hF k), h.block k hk hF1]
theorem Mem.frm' {P : Program} {F' : Nat → Prop} {w' : World} (h : Mem P w0 F ρ st w) (h' : Frm w F' w') (hF : ∀ b, ¬ F' b) : Mem P w0 F ρ st w' := by
  refine ⟨h.frm.none h' hF, h.rlt, h.olt, fun r row e => (h.row r row e).same fun b hb => ?_, fun o ob e => ?_, h.rr, h.oo, h.ro⟩
  · exact h'.block b ((h.row r row e).lt b hb) (hF b)
  · obtain ⟨h1, vs, h2, h3⟩ := h.ob o ob e
    exact ⟨h1, vs, (h'.block _ (lt_of_some h2) (hF _)).trans h2, h3⟩
theorem Mem.drawn {P : Program} (h : Mem P w0 F ρ st w) (n : Nat) : Mem P w0 F ρ st { w with drawn := n } :=
  ⟨⟨h.frm.os, h.frm.tape, h.frm.output, h.frm.size, h.frm.block⟩, h.rlt, h.olt, fun r row e => (h.row r row e).same fun _ _ => rfl, h.ob, h.rr, h.oo, h.ro⟩

theorem imR1_plain {P : Program} {gs os ms : List Nat} {us : List Value} : ∀ {vs : List Value} {cs : List RC1} {n : Nat}, All2 (rcOk1 P w gs us) vs cs → (cs.all fun c => match c with
    | .val _ => true
    | _ => false) = true → All2 (scOk ρ st) vs (imR1s os ms n cs)
  | _, _, _, .nil, _ => .nil
  | _, _, _, .cons (y := c) h hr, hp => by
    simp only [List.all_cons, Bool.and_eq_true] at hp
    cases c with
    | val x => exact .cons h (imR1_plain hr hp.2)
    | _ => simp at hp
theorem imRs_plain {P : Program} {gs os ms : List Nat} {us : List Value} : ∀ {vs : List Value} {cs : List RC} {n : Nat}, All2 (rcOk P w gs us) vs cs → cs.all plainR = true → All2 (pvOk ρ st) vs (imRs os ms n cs)
  | _, _, _, .nil, _ => .nil
  | _, _, _, .cons (y := c) h hr, hp => by
    simp only [List.all_cons, Bool.and_eq_true] at hp
    refine .cons ?_ (imRs_plain hr hp.2)
    cases c with
    | one c =>
      cases c with
      | val x => exact h
      | _ => simp [plainR] at hp
    | agg cs =>
      obtain ⟨vs, rfl, hv⟩ := h
      exact ⟨vs, rfl, imR1_plain hv hp.1⟩

/-- One value, whatever world of the class. -/
theorem qP_ok (hC : C.Ok) (hG : GOk C w0 F) (h : Rel C.P w0 F G U nt ρ st a w) {o : Oper} {K : St → Prop} (hp : qP C nt st o K) :
    ∃ v s, (∀ w', Mem C.P w0 F ρ st w' → o.quietAt C.P a (fun w'' => Mem C.P w0 F ρ st w'') w' v) ∧ svOk ρ st v s ∧ K (st.putD o.dst s) ∧ dOk nt o.dst = true := by
  unfold qP at hp
  split at hp
  rotate_left
  · cases hp
  rename_i hd
  have hrel : ∀ w', Mem C.P w0 F ρ st w' → Rel C.P w0 F G U nt ρ st a w' := fun w' hm => ⟨hm, h.size, h.defers, h.slots, h.pins, h.pinr⟩
  have hread : readP C st o (fun s => if st.det s = true then K (st.putD o.dst s) else False) → ∃ v s, (∀ w', Mem C.P w0 F ρ st w' → o.quietAt C.P a (fun w'' => Mem C.P w0 F ρ st w'') w' v) ∧ svOk ρ st v s ∧ K (st.putD o.dst s) ∧ dOk nt o.dst = true := by
    intro hp
    obtain ⟨s, hs, h3⟩ := readP_ok hC hp
    obtain ⟨v, h1, h2⟩ := hs _ _ _ _ _ _ _ _ h
    split at h3
    rotate_left
    · cases h3
    rename_i hdet
    refine ⟨v, s, fun w' hm => ?_, h2, h3, hd⟩
    obtain ⟨v', h1', h2'⟩ := hs _ _ _ _ _ _ _ _ (hrel w' hm)
    rw [Oper.quietAt, h1']
    exact ⟨rfl, det_eq h2' h2 hdet⟩
  split at hp
  · rename_i c ho
    split at hp
    · rename_i x hc
      split at hp
      · rename_i f os' hx
        split at hp
        rotate_left
        · cases hp
        rename_i hl
        have hv := ev_ok h x
        rw [hx] at hv
        have hfun := hv.2 fun o ho => (List.all_eq_true.1 hl) o ho
        have hargs : All2 (svOk ρ st) ((c.args.map a.eval ++ (os'.map fun o => Value.pointer (some ⟨ρ.os o, 0, none⟩)).toArray).toList) (c.args.toList.map (ev st) ++ os'.map fun o => .pv (.one (.ptr o 0))) := by
          rw [Array.toList_append, Array.toList_map, List.toList_toArray]
          refine (all2_ev h _).append ?_
          have : ∀ l : List Nat, (∀ o ∈ l, (look st.ob o).isSome) → (∀ o ∈ l, o < st.nx) → All2 (svOk ρ st) (l.map fun o => Value.pointer (some ⟨ρ.os o, 0, none⟩)) (l.map fun o => .pv (.one (.ptr o 0))) := by
            intro l
            induction l with
            | nil => intro _ _; exact .nil
            | cons q l ih => intro h1 h2; exact .cons ⟨h2 q (by simp), fun _ _ => rfl⟩ (ih (fun o ho => h1 o (by simp [ho])) (fun o ho => h2 o (by simp [ho])))
          exact this os' (fun o ho => (List.all_eq_true.1 hl) o ho) hv.1
        generalize hvs : c.args.toList.map (ev st) ++ os'.map (fun o => SV.pv (.one (.ptr o 0))) = svs at *
        unfold callQ at hp
        dsimp only at hp
        generalize reach st 40 (svsObs svs) [] = os at *
        split at hp
        · rename_i hoo args e2 e1
          obtain ⟨res, ho', hok, hp⟩ := hp.ok
          have hen := hok.1
          split at hp
          rotate_left
          · cases hp
          rename_i hpl
          split at hp
          rotate_left
          · cases hp
          rename_i hdet
          have hobs := exHO_some e2
          have hnone : ∀ o, oB st true ρ o = none := by
            intro o; unfold oB; split <;> rfl
          have hnil : ∀ l : List Nat, exKn st true l = [] := by
            intro l
            induction l with
            | nil => rfl
            | cons o l ih => simp only [exKn, ih, List.append_nil]; split <;> rfl
          have hcall : ∀ w', Mem C.P w0 F ρ st w' → Calls C.P f (c.args.map a.eval ++ (os'.map fun o => Value.pointer (some ⟨ρ.os o, 0, none⟩)).toArray) w' fun e w'' => ∃ rv, e = .returned (packV rv) ∧ All2 (pvOk ρ st) rv (imRs [] [] 0 res) ∧ Mem C.P w0 F ρ st w'' := by
            intro w' hm
            obtain ⟨cv, hc1, hc2, hc3, hc4⟩ := objs_cells hm true os [] e2
            have hL : os.map (oB st true ρ) ++ (([] : List Nat) ++ []).map (fun r => (ρ.rs r).ownBlock) = blks (gOwn (os.map ρ.os) hoo) [] (ownValsO cv (hoo.map HO.ecs)) := by
              unfold blks
              rw [hc3, hc4, hnil]; simp
            have hno : ∀ b, some b ∉ os.map (oB st true ρ) ++ (([] : List Nat) ++ []).map (fun r => (ρ.rs r).ownBlock) := by
              intro b hb
              simp only [List.append_nil, List.map_nil, List.mem_map] at hb
              obtain ⟨o, _, e⟩ := hb
              rw [hnone] at e; cases e
            have := hok.run (w := w') (vs := (c.args.map a.eval ++ (os'.map fun o => Value.pointer (some ⟨ρ.os o, 0, none⟩)).toArray).toList) (gs := os.map ρ.os) (cv := cv) (us := []) hL ⟨hG.frm hC hm.frm, fun b hb => absurd hb (hno b)⟩ (by
              refine All2.comp (s := fun x y => exA st os [] [] x = some y) (t := acOk C.P w' _ _ _) (fun x y z hx hy => ?_) hargs (mapO_ok (f := exA st os [] []) e1)
              exact exA_ok (rd := true) (os := os) (ms := []) (kn := []) hm hobs (by simp) hx hy) (all3_of (ms := []) (kn := []) hm hobs (by simp) (fun o ho => ho) hc1 hc2) .nil (by
                unfold Apart
                rw [List.pairwise_append]
                refine ⟨?_, by simp, by simp⟩
                rw [List.pairwise_map]
                exact List.Pairwise.imp (R := fun _ _ => True) (fun {x y} _ b hb => by rw [hnone] at hb; cases hb) (List.pairwise_of_forall fun _ _ => trivial))
            rw [Array.toArray_toList] at this
            refine this.mono fun e w'' hpost => ?_
            obtain ⟨rv, cv', rfl, h1, h2, h3, h4, h5, h6, h7, h8, h9, _⟩ := hpost
            exact ⟨rv, rfl, imRs_plain h1 hpl, hm.frm' h9 hno⟩
          obtain ⟨e, w1, fr, ⟨rv, he, hrv, _⟩, _⟩ := hcall w h.mem []
          refine ⟨packV rv, packS (imRs [] [] 0 res), fun w' hm => ?_, pack_ok hrv, hp, hd⟩
          have hrun := run_callF (w := w') ho hc hfun hen
          rw [Oper.quietAt, hrun]
          refine ⟨rfl, (hcall w' hm).mono fun e w'' ⟨rv', he', hrv', hm'⟩ => ⟨?_, hm'⟩⟩
          rw [he', det_eq (pack_ok hrv') (pack_ok hrv) hdet]
        · cases hp
      · cases hp
    · exact hread hp
  · exact hread hp

/-- Operations one after another that only read: they may come up in any order. -/
def vcQ (C : Cx) (nt : Nat) (ops : List Oper) : List Oper → List Nat → St → (St → Prop) → Prop
  | [], _, st, K => K st
  | o :: rest, kn, st, K => gP ops o kn st fun b kn st => match b with
    | true => qP C nt st o fun st' => vcQ C nt ops rest kn st' K
    | false => if dOk nt o.dst = true then vcQ C nt ops rest kn (st.putD o.dst (.pv (.one (.val undef)))) K else False

theorem mem_same {P : Program} {st st' : St} (h : Mem P w0 F ρ st w) (h1 : st'.rw = st.rw) (h2 : st'.ob = st.ob) (h3 : st'.nx = st.nx) : Mem P w0 F ρ st' w := by
  refine ⟨h.frm, ?_, ?_, ?_, fun o ob e => ?_, ?_, ?_, ?_⟩
  · rw [h1, h3]; exact h.rlt
  · rw [h2, h3]; exact h.olt
  · rw [h1]; exact h.row
  · rw [h2] at e
    exact (h.ob o ob e).congr fun v c hh => hh.congr (by omega) (fun r _ => ⟨by rw [h1], rfl⟩) (fun o _ => ⟨by rw [h2], rfl⟩)
  · rw [h1]; exact h.rr
  · rw [h2]; exact h.oo
  · rw [h1, h2]; exact h.ro
theorem vcQ_ok (hC : C.Ok) (hG : GOk C w0 F) {ops : Array Oper} {K : St → Prop} {Q : Act → Prop} {Cl : World → Prop} (hQ : ∀ st' a', K st' → Wf st' → (∀ w', Cl w' → Rel C.P w0 F G U nt ρ st' a' w') → Q a') : ∀ (l : List Oper) (kn : List Nat) (st : St) (a : Act) (w : World), Cl w →
    (∀ w', Cl w' ↔ Mem C.P w0 F ρ st w') → vcQ C nt ops.toList l kn st K → Wf st → Rel C.P w0 F G U nt ρ st a w → wpQuiet C.P ops Cl Q l a := by
  intro l
  induction l with
  | nil =>
    intro kn st a w hc hCl hv hw hr
    exact hQ st a hv hw fun w' hw' => ⟨(hCl w').1 hw', hr.size, hr.defers, hr.slots, hr.pins, hr.pinr⟩
  | cons o l ih =>
    intro kn st a w hc hCl hv hw h
    simp only [vcQ] at hv
    obtain ⟨b, kn', st', hb, hK, hw', h', e1, e2, e3⟩ := gP_ok hw hv h
    have hCl' : ∀ w', Cl w' ↔ Mem C.P w0 F ρ st' w' := fun w' => (hCl w').trans ⟨fun hm => mem_same hm e1 e2 e3, fun hm => mem_same hm e1.symm e2.symm e3.symm⟩
    have hput : ∀ s w', Cl w' ↔ Mem C.P w0 F ρ (st'.putD o.dst s) w' := by
      intro s w'
      have g1 : (st'.putD o.dst s).rw = st'.rw := by cases o.dst <;> rfl
      have g2 : (st'.putD o.dst s).ob = st'.ob := by cases o.dst <;> rfl
      have g3 : (st'.putD o.dst s).nx = st'.nx := putD_nx _ _
      exact (hCl' w').trans ⟨fun hm => mem_same hm g1 g2 g3, fun hm => mem_same hm g1.symm g2.symm g3.symm⟩
    show if Region.wanted o (yielded ops a.tmps) then o.quiet C.P a Cl (wpQuiet C.P ops Cl Q l) else wpQuiet C.P ops Cl Q l (a.put o.dst undef)
    rw [hb]
    cases b with
    | true =>
      simp only [if_true]
      obtain ⟨v, s, h1, h2, h3, hd⟩ := qP_ok hC hG h' hK
      refine ⟨v, fun w' hw'' => ?_, ih kn' _ _ w hc (hput s) h3 (hw'.putD _ _) (h'.slot o.dst v s h2 hd)⟩
      have := h1 w' ((hCl' w').1 hw'')
      have heq : (fun w'' => Mem C.P w0 F ρ st' w'') = Cl := funext fun w'' => propext (hCl' w'').symm
      rw [heq] at this
      exact this
    | false =>
      simp only [Bool.false_eq_true, if_false]
      simp only at hK
      split at hK
      · rename_i hd
        exact ih kn' _ _ w hc (hput _) hK (hw'.putD _ _) (h'.slot o.dst undef _ rfl hd)
      · cases hK
theorem vc_regionQ (hC : C.Ok) (hG : GOk C w0 F) {id : Nat} {ops : Array Oper} {K : St → Prop} {Q : Exit → Act → World → Prop} (hQ : ∀ st' a' w', K st' → RW C.P w0 F G U nt st' a' w' → Q .normal a' w') (hm : C.P.follows .mixedOrders = true) (hB : Region.lexB .any ops = true)
    (hv : vcQ C nt ops.toList ops.toList [] st K) (hr : RW C.P w0 F G U nt st a w) : (Code.region id ops true).wp C.P Q a w := by
  obtain ⟨hw, ρ, h⟩ := hr
  have hdr := h.mem.drawn (w.drawn + 1)
  refine wp_region_quiet (C := fun w' => Mem C.P w0 F ρ st w') hm hB hdr ?_
  exact vcQ_ok (Q := fun a' => ∀ w', Mem C.P w0 F ρ st w' → Q .normal a' w') hC hG (fun st' a' hK hw' hh w' hw'' => hQ st' a' w' hK ⟨hw', ρ, hh w' hw''⟩) ops.toList [] st a _ hdr (fun _ => Iff.rfl) hv hw ⟨hdr, h.size, h.defers, h.slots, h.pins, h.pinr⟩
end
end Go.Proofs.Ytjmhffbenbiieaa.Ev
