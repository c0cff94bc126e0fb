/- Part 17: operations one after another; regions in their order. -/
import Derived.Test.YtjmhffbenbiieaaEv16
set_option linter.unusedVariables false
set_option linter.unusedSimpArgs false
namespace Go.Proofs.Ytjmhffbenbiieaa.Ev
open Go.RowKit

section
variable {C : Cx} {w0 : World} {F : Nat → Prop} {G : List Nat} {U : List Value} {nt : Nat} {ρ : Rho} {st : St} {a : Act} {w : World}

theorem Reads.fin {o : Oper} {K : St → Prop} {Q : Exit → Act → World → Prop} (h : Rel C.P w0 F G U nt ρ st a w) (hw : Wf st) (hd : dOk nt o.dst = true) (hr : ∃ s, Comes1 C st o s ∧ K (st.putD o.dst s)) :
    o.wp C.P a w (fun a' w' => ∃ st', K st' ∧ RW C.P w0 F G U nt st' a' w') Q := by
  obtain ⟨s, hr, hK⟩ := hr
  exact ((hr _ _ _ _ _ _ _ _ h).does h hd).fin (hw.putD _ _) hK

theorem append_done {o : Oper} {x y : Operand} {T : Nat} {K : St → Prop} {Q : Exit → Act → World → Prop} {c : Call} (hC : C.Ok) (h : Rel C.P w0 F G U nt ρ st a w) (hw : Wf st) (hd : dOk nt o.dst = true) (ho : o.op = .call { callee := .builtin .append, args := #[x, y], argTypes := #[T, T] })
    (hp : match C.lay T, ev st x, ev st y with
          | some (.sl E), .pv (.one (.ref r n)), .pv (.one (.ref r2 m)) => match look st.rw r, look st.rw r2 with
            | some row, some row2 => if row.own = true ∧ E = row.el.T then
                AppG (convRow row.el row2.el (row2.xs.take m)) ((n + m) * row.el.bytes) (fun ys => K (((st.kill r).newRow ⟨true, row.el, row.xs.take n ++ ys⟩).putD o.dst (.pv (.one (.ref st.nx (n + m)))))) else False
            | _, _ => False
          | some (.sl E), .pv (.one (.val (.slice none 0 0))), .pv (.one (.ref r2 m)) => match C.el E, look st.rw r2 with
            | some el, some row2 => AppG (convRow el row2.el (row2.xs.take m)) (m * el.bytes) (fun ys => K ((st.newRow ⟨true, el, ys⟩).putD o.dst (.pv (.one (.ref st.nx m)))))
            | _, _ => False
          | _, _, _ => False) : o.wp C.P a w (fun a' w' => ∃ st', K st' ∧ RW C.P w0 F G U nt st' a' w') Q := by
  split at hp
  · rename_i E r n r2 m e1 e2 e3
    split at hp
    · rename_i row row2 e4 e5
      split at hp
      · rename_i e6
        obtain ⟨ys, h1, h2, hK⟩ := hp.ok
        exact (does_append hC h hw.2 ho e2 e3 e4 e6.1 e5 (by rw [e1, e6.2]) h1 h2 hd).fin ((hw.mono (by rfl) (by rfl) (by simp [St.newRow, St.kill])).putD _ _) hK
      · cases hp
    · cases hp
  · rename_i E r2 m e1 e2 e3
    split at hp
    · rename_i el row2 e4 e5
      obtain ⟨ys, h1, h2, hK⟩ := hp.ok
      exact (does_append_nil hC h hw.2 ho (val_of e2) e3 e5 e1 e4 h1 h2 hd).fin ((hw.mono (by rfl) (by rfl) (by simp [St.newRow])).putD _ _) hK
    · cases hp
  · cases hp

theorem opP_ok (hC : C.Ok) (hG : GOk C w0 F) (h : Rel C.P w0 F G U nt ρ st a w) (hw : Wf st) {o : Oper} {K : St → Prop} {Q : Exit → Act → World → Prop} (hp : opP C nt st o K) :
    o.wp C.P a w (fun a' w' => ∃ st', K st' ∧ RW C.P w0 F G U nt st' a' w') Q := by
  unfold opP at hp
  split at hp
  rotate_left
  · cases hp
  rename_i hd
  split at hp
  · rename_i T ho
    split at hp
    · rename_i l e1
      exact (does_alloc hC h hw.1 ho e1 hd).fin ((hw.mono (by rfl) (by rfl) (by simp [St.newOb])).putD _ _) hp
    · cases hp
  · rename_i T x ho
    split at hp
    · rename_i cs e1
      exact (does_box h hw.1 ho e1 hd).fin ((hw.mono (by rfl) (by rfl) (by simp [St.newOb])).putD _ _) hp
    · cases hp
  · rename_i T x y ho
    split at hp
    · rename_i l q off ns e1 e2 e3
      split at hp
      · rename_i ob e4
        split at hp
        · rename_i e5
          exact (does_store_ptr hC h ho e1 e2 e4 e5.1 e3 e5.2.1 e5.2.2.1 e5.2.2.2 hd).fin ((hw.mono (by rfl) (by rfl) (by simp [St.setOb])).putD _ _) hp
        · cases hp
      · cases hp
    · rename_i l r i j ns e1 e2 e3
      split at hp
      · rename_i row us e4 e5
        split at hp
        · rename_i e6
          split at hp
          · rename_i z e7
            exact (does_store_eptr hC h ho e1 e2 e4 e6.1 e3 e5 e6.2.1 e6.2.2.1 e6.2.2.2 e7 hd).fin ((hw.mono (by rfl) (by rfl) (by simp [St.setRow])).putD _ _) hp
          · cases hp
        · cases hp
      · cases hp
    · cases hp
  · rename_i T x lo hi ho
    split at hp
    · rename_i E r n e1 e2
      split at hp
      · rename_i row l u e3 e4 e5
        split at hp
        · rename_i e6
          obtain ⟨⟨h0, h1, h2⟩, hK⟩ := hp
          have hs : (st.shutR r).po = st.po ∧ (st.shutR r).pr = st.pr ∧ (st.shutR r).nx = st.nx := by simp [St.shutR, e3]
          exact (does_slice_view hC h hw.2 ho e2 e3 (by rw [e1, e6]) e4 e5 h0 h1 h2 hd).fin ((hw.mono (by simpa [St.newRow] using hs.1) (by simpa [St.newRow] using hs.2.1) (by simp [St.newRow, hs.2.2])).putD _ _) hK
        · cases hp
      · cases hp
    · exact Reads.fin h hw hd (readP_ok hC hp)
  · rename_i T n parts ho
    split at hp
    · rename_i E e1
      split at hp
      · rename_i el e2
        split at hp
        · rename_i xs e3
          split at hp
          · rename_i e4
            exact (does_buildSlice hC h hw.2 ho e1 e2 e3 e4.1 e4.2 hd).fin ((hw.mono (by rfl) (by rfl) (by simp [St.newRow])).putD _ _) hp
          · cases hp
        · cases hp
      · cases hp
    · cases hp
  · rename_i T x y ho
    split at hp
    · rename_i E n m e1 e2 e3
      split at hp
      · rename_i el e4
        obtain ⟨rfl, ⟨h0, h1⟩, hK⟩ := hp
        exact (does_makeSlice hC h hw.2 ho e1 e4 e2 e3 h0 h1 hd).fin ((hw.mono (by rfl) (by rfl) (by simp [St.newRow])).putD _ _) hK
      · cases hp
    · cases hp
  · rename_i c ho
    split at hp
    · rename_i x y T T' e1 e2 e3
      split at hp
      · rename_i e4
        subst e4
        obtain ⟨cal, as, ts⟩ := c
        have e2' : as = #[x, y] := Array.toList_inj.1 e2
        have e3' : ts = #[T, T] := Array.toList_inj.1 e3
        dsimp only at e1
        subst e2'; subst e3'; subst e1
        exact append_done (c := ⟨.builtin .append, #[x, y], #[T, T]⟩) hC h hw hd ho hp
      · cases hp
    · rename_i x e1
      split at hp
      · rename_i f os e2
        split at hp
        · rename_i e3
          exact callP_ok hC hG h hw ho e1 e2 e3 hd hp
        · cases hp
      · cases hp
    · exact Reads.fin h hw hd (readP_ok hC hp)
  · rename_i op T x y T' ho
    split at hp
    · rename_i r n e1
      split at hp
      · rename_i row E e2 e3
        obtain ⟨b, h1, hr⟩ := does_isNil hC h ho e1 e2 e3
        exact (hr.does h hd).fin (hw.putD _ _) (hp.ok b h1)
      · cases hp
    · exact Reads.fin h hw hd (readP_ok hC hp)
  · exact Reads.fin h hw hd (readP_ok hC hp)

/-- What is known of a slot besides. -/
theorem Rel.know {P : Program} (h : Rel P w0 F G U nt ρ st a w) {t : Nat} {s : SV} (hs : svOk ρ st (a.tmps.getD t undef) s) : Rel P w0 F G U nt ρ (st.put t s) a w := by
  refine ⟨h.mem.put t s, h.size, h.defers, fun t' sv e => ?_, h.pins, h.pinr⟩
  simp only [St.put, look] at e
  split at e
  · rename_i ht; subst ht
    injection e with e; subst e
    exact hs.congr fun v c => put_sc
  · exact (h.slots t' sv e).congr fun v c => put_sc

def boolOf : Value → Option Bool
  | .bool b => some b
  | _ => none
/-- The guard's slot t holds v. -/
def gV (kn : List Nat) (st : St) (K : Bool → List Nat → St → Prop) (want : Bool) (t : Nat) : Value → Prop
  | .bool b => if memB kn t = true then
      (match b, want with
      | true, true => K true kn st
      | false, false => K true kn st
      | true, false => K false kn st
      | false, true => K false kn st) else
      Two b (K want (t :: kn) (st.put t (.pv (.one (.val (.bool true)))))) (K (!want) (t :: kn) (st.put t (.pv (.one (.val (.bool false))))))
  | _ => K false kn st
/-- The guard of an operation. -/
def gP (l : List Oper) (o : Oper) (kn : List Nat) (st : St) (K : Bool → List Nat → St → Prop) : Prop :=
  match o.guard with
  | none => K true kn st
  | some (g, want) => match (l[g]?).bind (·.dst) with
    | none => K false kn st
    | some t => match ev st (.tmp t) with
      | .pv (.one (.val v)) => gV kn st K want t v
      | _ => False
theorem gV_ok {P : Program} {kn : List Nat} {K : Bool → List Nat → St → Prop} {want : Bool} {t : Nat} {v : Value} (hw : Wf st) (hp : gV kn st K want t v) (h : Rel P w0 F G U nt ρ st a w) (hv : a.tmps.getD t undef = v) {y : Option Bool} (hy : y = boolOf v) : ∃ kn' st', K (y == some want) kn' st' ∧ Wf st' ∧ Rel P w0 F G U nt ρ st' a w ∧ st'.rw = st.rw ∧ st'.ob = st.ob ∧ st'.nx = st.nx := by
  cases v with
  | bool b =>
    simp only [boolOf] at hy
    subst hy
    simp only [gV] at hp
    by_cases hm : memB kn t = true
    · rw [if_pos hm] at hp
      cases b <;> cases want <;> exact ⟨kn, st, by simpa using hp, hw, h, rfl, rfl, rfl⟩
    · rw [if_neg hm] at hp
      cases b
      · exact ⟨t :: kn, st.put t (.pv (.one (.val (.bool false)))), by cases want <;> simpa using hp.f rfl, hw, h.know (s := .pv (.one (.val (.bool false)))) (by rw [hv]; rfl), rfl, rfl, rfl⟩
      · exact ⟨t :: kn, st.put t (.pv (.one (.val (.bool true)))), by cases want <;> simpa using hp.t rfl, hw, h.know (s := .pv (.one (.val (.bool true)))) (by rw [hv]; rfl), rfl, rfl, rfl⟩
  | _ => subst hy; exact ⟨kn, st, hp, hw, h, rfl, rfl, rfl⟩
theorem gP_ok {P : Program} {ops : Array Oper} {o : Oper} {kn : List Nat} {K : Bool → List Nat → St → Prop} (hw : Wf st) (hp : gP ops.toList o kn st K) (h : Rel P w0 F G U nt ρ st a w) :
    ∃ b kn' st', Region.wanted o (yielded ops a.tmps) = b ∧ K b kn' st' ∧ Wf st' ∧ Rel P w0 F G U nt ρ st' a w ∧ st'.rw = st.rw ∧ st'.ob = st.ob ∧ st'.nx = st.nx := by
  unfold gP at hp
  split at hp
  · rename_i e
    exact ⟨true, kn, st, by simp [Region.wanted, e], hp, hw, h, rfl, rfl, rfl⟩
  · rename_i g want e
    split at hp
    · rename_i e1
      rw [Array.getElem?_toList] at e1
      exact ⟨false, kn, st, by simp [Region.wanted, e, yielded, e1], hp, hw, h, rfl, rfl, rfl⟩
    · rename_i t e1
      rw [Array.getElem?_toList] at e1
      split at hp
      · rename_i v e2
        have hv : a.tmps.getD t undef = v := by
          have := ev_ok h (.tmp t)
          rw [e2] at this
          exact this
        have hy : yielded ops a.tmps g = boolOf v := by
          simp only [yielded, e1, Option.bind_some]
          by_cases hlt : t < a.tmps.size
          · have : a.tmps[t]? = some v := by rw [← hv]; simp [hlt]
            rw [this]
            cases v <;> rfl
          · have hn : a.tmps[t]? = none := Array.getElem?_eq_none (Nat.le_of_not_lt hlt)
            have : v = undef := by rw [← hv]; simp [hn, Array.getD_eq_getD_getElem?]
            rw [hn, this]; rfl
        obtain ⟨kn', st', h1, h2, h3, h4⟩ := gV_ok hw hp h hv hy
        exact ⟨_, kn', st', by simp [Region.wanted, e], h1, h2, h3, h4⟩
      · cases hp

/-- Operations one after another. -/
def vcOps (C : Cx) (nt : Nat) (ops : List Oper) : List Oper → List Nat → St → (St → Prop) → Prop
  | [], _, st, K => K st
  | o :: rest, kn, st, K => gP ops o kn st fun b kn st => match b with
    | true => opP C nt st o fun st' => vcOps C nt ops rest kn st' K
    | false => if dOk nt o.dst = true then vcOps C nt ops rest kn (st.putD o.dst (.pv (.one (.val undef)))) K else False

theorem vcOps_ok (hC : C.Ok) (hG : GOk C w0 F) {ops : Array Oper} {K : St → Prop} {Q : Exit → Act → World → Prop} (hQ : ∀ st' a' w', K st' → RW C.P w0 F G U nt st' a' w' → Q .normal a' w') : ∀ (l : List Oper) (k : Nat) (kn : List Nat) (st : St) (a : Act) (w : World),
    (∀ j, l[j]? = ops[k + j]?) → vcOps C nt ops.toList l kn st K → RW C.P w0 F G U nt st a w → wpOps C.P ops Q (List.range' k l.length) a w := by
  intro l
  induction l with
  | nil => intro k kn st a w _ hv hr; exact hQ st a w hv hr
  | cons o l ih =>
    intro k kn st a w hl hv hr
    obtain ⟨hw, ρ, h⟩ := hr
    have h0 : ops[k]? = some o := by have := hl 0; simpa using this.symm
    have hl' : ∀ j, l[j]? = ops[k + 1 + j]? := by
      intro j
      have := hl (j + 1)
      simp only [List.getElem?_cons_succ] at this
      rw [this]; congr 1; omega
    simp only [vcOps] at hv
    obtain ⟨b, kn', st', hb, hK, hw', h', _⟩ := gP_ok hw hv h
    rw [List.length_cons, List.range'_succ, wpOps_cons]
    unfold wpOp
    simp only [h0, hb]
    cases b with
    | true =>
      simp only [if_true]
      refine .inl (Oper.wp_mono (fun a' w' hh => ?_) (opP_ok hC hG h' hw' hK))
      obtain ⟨st2, hK2, hr2⟩ := hh
      exact ih (k + 1) kn' st2 a' w' hl' hK2 hr2
    | false =>
      simp only [Bool.false_eq_true, if_false]
      simp only at hK
      split at hK
      · rename_i hd
        exact ih (k + 1) kn' _ _ w hl' hK ⟨hw'.putD _ _, ρ, h'.slot o.dst undef _ rfl hd⟩
      · cases hK
theorem vc_region (hC : C.Ok) (hG : GOk C w0 F) {id : Nat} {ops : Array Oper} {K : St → Prop} {Q : Exit → Act → World → Prop} (hQ : ∀ st' a' w', K st' → RW C.P w0 F G U nt st' a' w' → Q .normal a' w')
    (hv : vcOps C nt ops.toList ops.toList [] st K) (hr : RW C.P w0 F G U nt st a w) : (Code.region id ops false).wp C.P Q a w := by
  refine wp_region ?_
  have := vcOps_ok (G := G) (U := U) hC hG hQ ops.toList 0 [] st a w (fun j => by simp) hv hr
  rwa [List.range_eq_range', ← Array.length_toList]

end
end Go.Proofs.Ytjmhffbenbiieaa.Ev
