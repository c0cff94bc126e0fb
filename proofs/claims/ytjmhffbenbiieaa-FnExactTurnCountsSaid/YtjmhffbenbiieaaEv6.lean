/- Part 6: stores; addresses of fields and elements; parts of aggregates; slices of slices and strings. -/
import Derived.Test.YtjmhffbenbiieaaEv5
set_option linter.unusedVariables false
set_option linter.unusedSimpArgs false
namespace Go.Proofs.Ytjmhffbenbiieaa.Ev
open Go.RowKit

theorem lay_size {P : Program} {t : Nat} {l : Lay} (h : LayOk1 P t l) (w : World) : (sizeOf t).run P w = .ok l.cnt w := by
  cases l with
  | st sz zs fs => obtain ⟨fa, i, h1, h2, h3, _⟩ := h; simp [sizeOf, typeInfo, h2, h3, Lay.cnt]
  | sc z => obtain ⟨h0, d, i, h1, _, _, h2, h3, h4⟩ := h; simp [sizeOf, typeInfo, h2, h3, Lay.cnt]
  | sl e => obtain ⟨h1, i, h2, h3, h4⟩ := h; simp [sizeOf, typeInfo, h2, h3, Lay.cnt]
  | str => obtain ⟨h1, i, h2, h3, h4⟩ := h; simp [sizeOf, typeInfo, h2, h3, Lay.cnt]

theorem splice_take {β : Type _} (l vs : List β) (p N : Nat) (h : p + vs.length ≤ N) (hl : N ≤ l.length) : (l.take p ++ vs ++ l.drop (p + vs.length)).take N = (l.take N).take p ++ vs ++ (l.take N).drop (p + vs.length) := by
  apply List.ext_getElem?
  intro k
  simp only [List.getElem?_take, List.getElem?_append, List.length_append, List.length_take, List.getElem?_drop]
  have e1 : min p l.length = p := by omega
  have e2 : min N l.length = N := by omega
  have e3 : min p N = p := by omega
  simp only [e1, e2, e3]
  by_cases h1 : k < N
  · by_cases h2 : k < p + vs.length
    · by_cases h3 : k < p
      · simp [h1, h2, h3]
      · simp [h1, h2, h3]
    · have h4 : p + vs.length + (k - (p + vs.length)) < N := by omega
      simp [h1, h2, h4]
  · have h2 : ¬ k < p + vs.length := by omega
    have h4 : ¬ p + vs.length + (k - (p + vs.length)) < N := by omega
    simp [h1, h2, h4]

theorem flat_split {P : Program} {e : El} (h : e.Ok P) (xs : List e.α) (i : Nat) (hi : i < xs.length) : e.flat xs = (e.flat xs).take (i * e.sz) ++ e.enc (xs.getD i e.zero) ++ (e.flat xs).drop ((i + 1) * e.sz) := by
  have := flat_set h xs i (xs.getD i e.zero) hi
  have hg : xs.getD i e.zero = xs[i] := by simp [List.getD_eq_getElem?_getD, hi]
  rw [hg, List.set_getElem_self] at this
  rw [hg]
  exact this

theorem flat_splice {P : Program} {e : El} (h : e.Ok P) (xs : List e.α) (i j : Nat) (hi : i < xs.length) (vs : List Value) (hj : j + vs.length ≤ e.sz) (y : e.α) (hy : e.enc y = (e.enc (xs.getD i e.zero)).take j ++ vs ++ (e.enc (xs.getD i e.zero)).drop (j + vs.length)) :
    e.flat (xs.set i y) = (e.flat xs).take (i * e.sz + j) ++ vs ++ (e.flat xs).drop (i * e.sz + j + vs.length) := by
  have hs := flat_split h xs i hi
  have hl : ((e.flat xs).take (i * e.sz)).length = i * e.sz := by
    rw [List.length_take, flat_length h]
    have := Nat.mul_le_mul_right e.sz (Nat.le_of_lt hi)
    omega
  have hle := h.len (xs.getD i e.zero)
  rw [flat_set h xs i y hi, hy]
  generalize (e.flat xs).take (i * e.sz) = A at *
  generalize (e.flat xs).drop ((i + 1) * e.sz) = B at *
  generalize e.enc (xs.getD i e.zero) = M at *
  rw [hs]
  have t1 : (A ++ M ++ B).take (i * e.sz + j) = A ++ M.take j := by
    rw [List.append_assoc, List.take_append, hl, List.take_of_length_le (by omega), Nat.add_sub_cancel_left, List.take_append_of_le_length (by omega)]
  have t2 : (A ++ M ++ B).drop (i * e.sz + j + vs.length) = M.drop (j + vs.length) ++ B := by
    rw [List.append_assoc, List.drop_append, hl, List.drop_eq_nil_of_le (by omega), List.nil_append]
    have : i * e.sz + j + vs.length - i * e.sz = j + vs.length := by omega
    rw [this, List.drop_append_of_le_length (by omega)]
  rw [t1, t2]
  simp [List.append_assoc]

section
variable {C : Cx} {w0 : World} {F : Nat → Prop} {G : List Nat} {U : List Value} {nt : Nat} {ρ : Rho} {st : St} {a : Act} {w : World}

def splice (cs : List SC) (off : Nat) (ns : List SC) : List SC := cs.take off ++ ns ++ cs.drop (off + ns.length)

theorem setRow_grown (w : World) (g : Nat) (cs : Array Value) : w.grownBy (w.setRow g cs) (some g) :=
  ⟨rfl, rfl, rfl, by simp, fun k _ hk => setRow_other w g k cs (fun e => hk (by rw [e]))⟩

theorem all_live {vs : List Value} {ns : List SC} (h : All2 (scOk ρ st) vs ns) (hl : ns.all st.live = true) : ∀ v ∈ vs, v.oneCell' = true := by
  induction h with
  | nil => simp
  | cons hx _ ih =>
    simp only [List.all_cons, Bool.and_eq_true] at hl
    intro v hv
    rcases List.mem_cons.1 hv with rfl | hv
    · exact live_one hx hl.1
    · exact ih hl.2 v hv

theorem run_storeVar {P : Program} {T : Nat} {l : Lay} (hl : LayOk1 P T l) (g off : Nat) (v : Value) (hn : v.cells.size = l.cnt) : (storeVar T ⟨g, off, none⟩ v).run P w = (storeCells ⟨g, off, none⟩ v.cells.toList).run P w := by
  simp only [storeVar, Sem.run_bind, lay_size hl w, Result.andThen_ok]
  rw [if_neg (by simp [hn])]

theorem does_store_ptr (hC : C.Ok) (h : Rel C.P w0 F G U nt ρ st a w) {o : Oper} {T : Nat} {x y : Operand} {l : Lay} {q off : Nat} {ob : Ob} {ns : List SC} (ho : o.op = .store T x y) (hl : C.lay T = some l) (hx : ev st x = .pv (.one (.ptr q off))) (hq : look st.ob q = some ob) (how : ob.own = true)
    (hy : st.cells (ev st y) = some ns) (hlive : ns.all st.live = true) (hn : ns.length = l.cnt) (hb : off + ns.length ≤ ob.cs.length) (hd : dOk nt o.dst = true) :
    Does C o a w (RR C w0 F G U nt ((st.setOb q ⟨ob.T, splice ob.cs off ns, true⟩).putD o.dst (.pv (.one .undef)))) := by
  have hv := ev_ok h x
  rw [hx] at hv
  have hp : a.eval x = .pointer (some ⟨ρ.os q, off, none⟩) := hv.2 ob hq
  obtain ⟨hok, vs, hh, hvs⟩ := h.mem.ob q ob hq
  have hyv := cells_ok (ev_ok h y) hy
  have h1 := all_live hyv hlive
  have hvl := hyv.length
  have hsz : (a.eval y).cells.size = l.cnt := by rw [← Array.length_toList, hvl, hn]
  have hlen := hvs.length
  have hst := run_storeCells_at C.P (ρ.os q) off ob.T (a.eval y).cells.toList 0 vs.toArray w hh (by simp only [Nat.add_zero, List.size_toArray]; omega) h1
  simp only [Nat.add_zero] at hst
  refine ⟨undef, _, .inr ⟨?_, rfl⟩, ρ, h.next (h.mem.setOb (ob' := ⟨ob.T, splice ob.cs off ns, true⟩) hq how rfl (setRow_grown w _ _) ⟨fun _ => hok how, vs.take off ++ (a.eval y).cells.toList ++ vs.drop (off + (a.eval y).cells.toList.length), setRow_heap w _ _ _ _ _ hh, ?_⟩) rfl (fun v c => setOb_sc hq) rfl rfl rfl rfl o.dst undef _ trivial hd⟩
  · simp only [execOp, ho, Instr.storeAt, Instr.sureAddr, hp, Sem.run_bind, Sem.run_pure, Result.andThen_ok, run_storeVar (hC.lay T l hl) _ _ _ hsz, hst]
  · simp only [splice]
    rw [hvl]
    exact ((hvs.take off).append hyv).append (hvs.drop _)

def valsOf : List SC → Option (List Value)
  | [] => some []
  | .val v :: r => (valsOf r).map (v :: ·)
  | _ :: _ => none
theorem valsOf_ok {vs : List Value} {ns : List SC} (h : All2 (scOk ρ st) vs ns) {us : List Value} (hu : valsOf ns = some us) : vs = us := by
  induction h generalizing us with
  | nil => simp [valsOf] at hu; exact hu.symm ▸ rfl
  | @cons x y xs ys hx _ ih =>
    cases y <;> simp only [valsOf] at hu <;> try cases hu
    rename_i v
    simp only [Option.map_eq_some_iff] at hu
    obtain ⟨r, hr, rfl⟩ := hu
    rw [ih hr, show x = v from hx]

theorem does_store_eptr (hC : C.Ok) (h : Rel C.P w0 F G U nt ρ st a w) {o : Oper} {T : Nat} {x y : Operand} {l : Lay} {r i j : Nat} {row : Row} {ns : List SC} {us : List Value} {z : row.el.α} (ho : o.op = .store T x y) (hl : C.lay T = some l) (hx : ev st x = .pv (.one (.eptr r i j)))
    (hq : look st.rw r = some row) (hown : row.own = true) (hy : st.cells (ev st y) = some ns) (hu : valsOf ns = some us) (hlive : ns.all st.live = true) (hn : us.length = l.cnt) (hb : j + us.length ≤ row.el.sz)
    (hz : row.el.dec ((row.el.enc (row.xs.getD i row.el.zero)).take j ++ us ++ (row.el.enc (row.xs.getD i row.el.zero)).drop (j + us.length)) = some z) (hd : dOk nt o.dst = true) :
    Does C o a w (RR C w0 F G U nt ((st.setRow r ⟨true, row.el, row.xs.set i z⟩).putD o.dst (.pv (.one .undef)))) := by
  have hv := ev_ok h x
  rw [hx] at hv
  obtain ⟨ad, m, c, e1, hp, hi⟩ := hv.2 row hq
  have hrow := h.mem.row r row hq
  obtain ⟨hel, hro⟩ := hrow
  rw [if_pos hown] at hro
  obtain ⟨⟨hfl, hro⟩, hblk⟩ := hro
  have hyv := cells_ok (ev_ok h y) hy
  have hvs := valsOf_ok hyv hu
  have h1 := all_live hyv hlive
  have hsz : (a.eval y).cells.size = l.cnt := by rw [← Array.length_toList, hvs, hn]
  rcases hro with ⟨e2, _⟩ | ⟨g, cap, cur, e2, hb0, hh, hnc, hcm, hcs, htk⟩
  · rw [e1] at e2; cases e2
  rw [e1] at e2
  injection e2 with e2 e3 e4
  injection e2 with e2
  subst e2
  have hN := Nat.mul_le_mul_right row.el.sz hnc
  have hI : (i + 1) * row.el.sz ≤ row.xs.length * row.el.sz := Nat.mul_le_mul_right _ hi
  have hI2 : (i + 1) * row.el.sz = i * row.el.sz + row.el.sz := by rw [Nat.add_mul, Nat.one_mul]
  have hst := run_storeCells_at C.P g (i * row.el.sz + j) row.el.T us 0 cur w hh (by simp only [Nat.add_zero]; omega) (by rw [← hvs]; exact h1)
  simp only [Nat.add_zero] at hst
  have hg : w.grownBy (w.setRow g (cur.toList.take (i * row.el.sz + j) ++ us ++ cur.toList.drop (i * row.el.sz + j + us.length)).toArray) (ρ.rs r).ownBlock := by rw [e1]; exact setRow_grown w g _
  refine ⟨undef, _, .inr ⟨?_, rfl⟩, ρ, h.next (h.mem.setRow (row' := ⟨true, row.el, row.xs.set i z⟩) hq hown rfl (by simp) rfl hg ⟨hel, ?_⟩) rfl (fun v c => setRow_sc (row' := ⟨true, row.el, row.xs.set i z⟩) hq (by simp) rfl) rfl rfl rfl rfl o.dst undef _ trivial hd⟩
  · have ha : (⟨g, 0, none⟩ : Addr).add (i * row.el.sz + j) = ⟨g, i * row.el.sz + j, none⟩ := by rw [add_lit, Nat.zero_add]
    simp only [execOp, ho, Instr.storeAt, Instr.sureAddr, hp, ha, Sem.run_bind, Sem.run_pure, Result.andThen_ok, run_storeVar (hC.lay T l hl) _ _ _ hsz, hvs, hst]
  · rw [if_pos rfl]
    refine ⟨⟨by simp [flat_length hel], .inr ⟨g, cap, _, by rw [e1, List.length_set]; simp only [e3, e4], hb0, setRow_heap w _ _ _ _ _ hh, by simpa using hnc, hcm, ?_, ?_⟩⟩, hblk⟩
    · simp only [List.size_toArray, List.length_append, List.length_take, List.length_drop, Array.length_toList]
      omega
    · dsimp only
      rw [List.toList_toArray, List.length_set, splice_take _ _ _ _ (by omega) (by rw [Array.length_toList]; omega), htk]
      exact (flat_splice hel row.xs i j hi us hb z (hel.enc_dec _ _ hz)).symm

/-! ### Addresses -/
def Lay.fld : Lay → Nat → Option (Nat × Nat)
  | .st _ _ fs, k => fs[k]?
  | _, _ => none
theorem run_fieldAt {P : Program} {S : Nat} {l : Lay} {k : Nat} {p : Nat × Nat} (hl : LayOk1 P S l) (hf : l.fld k = some p) (ad : Addr) : (Instr.fieldAt S (.pointer (some ad)) k).run P w = .ok (.pointer (some (ad.add p.1))) w := by
  cases l with
  | st sz zs fs =>
    obtain ⟨fa, i, h1, h2, h3, h4, h5, h5', h6⟩ := hl
    obtain ⟨f, j, hf1, hf2, hf3, hf4, hf5⟩ := h6 k p hf
    simp [Instr.fieldAt, run_underlying h1, hf1, Instr.sureAddr, fieldPlace, sizeOf, typeInfo, hf4, hf5, hf2]
  | _ => cases hf
theorem does_fieldAddr_ptr (hC : C.Ok) (h : Rel C.P w0 F G U nt ρ st a w) {o : Oper} {S k : Nat} {x : Operand} {l : Lay} {q off : Nat} {ob : Ob} {p : Nat × Nat} (ho : o.op = .fieldAddr S x k) (hl : C.lay S = some l) (hf : l.fld k = some p) (hx : ev st x = .pv (.one (.ptr q off))) (hq : look st.ob q = some ob) :
    Reads C ρ st o a w (.pv (.one (.ptr q (off + p.1)))) := by
  have hv := ev_ok h x
  rw [hx] at hv
  have hp : a.eval x = .pointer (some ⟨ρ.os q, off, none⟩) := hv.2 ob hq
  refine ⟨(.pointer (some ⟨ρ.os q, off + p.1, none⟩)), ?_, ⟨hv.1, fun _ _ => rfl⟩⟩
  simp only [execOp, ho, Sem.run_bind, hp, run_fieldAt (hC.lay S l hl) hf, Result.andThen_ok, Sem.run_pure, add_lit]
theorem does_fieldAddr_eptr (hC : C.Ok) (h : Rel C.P w0 F G U nt ρ st a w) {o : Oper} {S k : Nat} {x : Operand} {l : Lay} {r i j : Nat} {row : Row} {p : Nat × Nat} (ho : o.op = .fieldAddr S x k) (hl : C.lay S = some l) (hf : l.fld k = some p) (hx : ev st x = .pv (.one (.eptr r i j))) (hq : look st.rw r = some row) :
    Reads C ρ st o a w (.pv (.one (.eptr r i (j + p.1)))) := by
  have hv := ev_ok h x
  rw [hx] at hv
  obtain ⟨ad, m, c, e1, hp, hi⟩ := hv.2 row hq
  refine ⟨.pointer (some (ad.add (i * row.el.sz + (j + p.1)))), ?_, ⟨hv.1, fun row' hr' => ?_⟩⟩
  · simp only [execOp, ho, Sem.run_bind, hp, run_fieldAt (hC.lay S l hl) hf, Result.andThen_ok, Sem.run_pure, add_add, Nat.add_assoc]
  · rw [hq] at hr'; injection hr' with hr'; subst hr'
    exact ⟨ad, m, c, e1, rfl, hi⟩

theorem does_nilCheck (h : Rel C.P w0 F G U nt ρ st a w) {o : Oper} {x : Operand} {c : SC} (ho : o.op = .nilCheck x) (hx : ev st x = .pv (.one c)) (hp : (∃ q off, c = .ptr q off) ∨ ∃ r i j, c = .eptr r i j) (hl : st.live c = true) :
    Reads C ρ st o a w (.pv (.one c)) := by
  have hv := ev_ok h x
  rw [hx] at hv
  have hptr : ∃ ad, a.eval x = .pointer (some ad) := by
    rcases hp with ⟨q, off, rfl⟩ | ⟨r, i, j, rfl⟩
    · simp only [St.live, Option.isSome_iff_exists] at hl
      obtain ⟨ob, hr⟩ := hl
      exact ⟨_, hv.2 ob hr⟩
    · simp only [St.live, Option.isSome_iff_exists] at hl
      obtain ⟨row, hr⟩ := hl
      obtain ⟨A, m, c, _, e, _⟩ := hv.2 row hr
      exact ⟨_, e⟩
  obtain ⟨ad, hp⟩ := hptr
  refine ⟨a.eval x, ?_, hv⟩
  simp only [execOp, ho, hp]
  rfl

theorem does_indexAddr (hC : C.Ok) (h : Rel C.P w0 F G U nt ρ st a w) {o : Oper} {T : Nat} {x y : Operand} {r n : Nat} {k : IntKind} {i : Int} {row : Row} (ho : o.op = .indexAddr T x y) (hx : ev st x = .pv (.one (.ref r n))) (hq : look st.rw r = some row) (hl : C.lay T = some (.sl row.el.T))
    (hy : (ev st y).val? = some (.int k i)) (h0 : 0 ≤ i) (h1 : i < n) : Reads C ρ st o a w (.pv (.one (.eptr r i.toNat 0))) := by
  have hv := ev_ok h x
  rw [hx] at hv
  obtain ⟨A, m, c, e1, hp, hn⟩ := hv.2 row hq
  have hyv := val?_ok (ev_ok h y) hy
  have hrow := h.mem.row r row hq
  obtain ⟨hel, hro⟩ := hrow
  obtain ⟨it, z, hi1, hi2, hi3, hi4, hi5⟩ := hel.info
  have hu := (hC.lay T _ hl).1
  have hA : ∃ ad, A = some ad := by
    split at hro
    · rcases hro.1.2 with ⟨e2, e3⟩ | ⟨g, cap, cur, e2, _⟩
      · omega
      · rw [e1] at e2; injection e2 with e2; exact ⟨_, e2⟩
    · obtain ⟨A', c', e2, _, _, h3⟩ := hro
      rw [e1] at e2; injection e2 with e2 e3 e4
      obtain ⟨ad, e5, _⟩ := h3 (by omega)
      exact ⟨ad, e2.trans e5⟩
  obtain ⟨ad, rfl⟩ := hA
  refine ⟨.pointer (some (ad.add (i.toNat * row.el.sz))), ?_, ⟨hv.1, fun row' hr' => ?_⟩⟩
  · have hlt : i < (n : Int) := h1
    simp only [execOp, ho, hp, hyv]
    simp [Instr.indexAt, asIntOf, run_underlying hu, h0, hlt, sizeOf, typeInfo, hi1, hi2]
  · rw [hq] at hr'; injection hr' with hr'; subst hr'
    exact ⟨ad, m, c, e1, by simp, by omega⟩

end
end Go.Proofs.Ytjmhffbenbiieaa.Ev
