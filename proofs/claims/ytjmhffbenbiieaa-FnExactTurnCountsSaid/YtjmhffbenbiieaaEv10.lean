/- Part 10: make and append. -/
import Derived.Test.YtjmhffbenbiieaaEv9
set_option linter.unusedVariables false
set_option linter.unusedSimpArgs false
namespace Go.Proofs.Ytjmhffbenbiieaa.Ev
open Go.RowKit

/-- Elements of one description read as those of another. -/
def convRow (e e' : El) : List e'.α → Option (List e.α)
  | [] => some []
  | y :: r => match e.dec (e'.enc y) with
    | some x => (convRow e e' r).map (x :: ·)
    | none => none
theorem convRow_ok {P : Program} {e e' : El} (he : e.Ok P) : ∀ {ys : List e'.α} {zs : List e.α}, convRow e e' ys = some zs → e.flat zs = e'.flat ys ∧ zs.length = ys.length
  | [], zs, h => by simp only [convRow] at h; injection h with h; subst h; exact ⟨rfl, rfl⟩
  | y :: r, zs, h => by
    simp only [convRow] at h
    split at h
    · rename_i x hx
      simp only [Option.map_eq_some_iff] at h
      obtain ⟨zs', h1, rfl⟩ := h
      obtain ⟨h2, h3⟩ := convRow_ok he h1
      refine ⟨?_, by simp [h3]⟩
      show e.enc x ++ e.flat zs' = e'.enc y ++ e'.flat r
      rw [he.enc_dec _ _ hx, h2]
    · cases h
theorem convRow_self {e : El} (h : ∀ x, e.dec (e.enc x) = some x) (ys : List e.α) : convRow e e ys = some ys := by
  induction ys with
  | nil => rfl
  | cons y r ih => simp [convRow, h, ih]

section
variable {C : Cx} {w0 : World} {F : Nat → Prop} {G : List Nat} {U : List Value} {nt : Nat} {ρ : Rho} {st : St} {a : Act} {w : World}

/-- A new row of the call's own, which lies in new memory. -/
theorem Rel.newOwn' (h : Rel C.P w0 F G U nt ρ st a w) (hpr : ∀ o ∈ st.pr, o < st.nx) {el : El} (hel : el.Ok C.P) (xs : List el.α) {u : Value} {w' : World} (hg : w.grownBy w' none) (hown : w'.ownsRow 0 el.T el.sz u xs.length (el.flat xs)) (hb : ∀ b, u.ownBlock = some b → w.heap.size ≤ b) (d : Option Nat) (hd : dOk nt d = true) :
    ∃ ρ', Rel C.P w0 F G U nt ρ' ((st.newRow ⟨true, el, xs⟩).putD d (.pv (.one (.ref st.nx xs.length)))) (a.put d u) w' := by
  have hm' := h.mem.grown hg (by simp) (by simp) (by simp)
  refine ⟨ρ.row st.nx u, h.next (Mem.newRow hm' (row := ⟨true, el, xs⟩) (u := u) ⟨hel, ?_⟩ ?_ ?_) rfl (fun v c => newRow_sc) rfl rfl rfl (map_row hpr u) d _ _ ?_ hd⟩
  · rw [if_pos rfl]
    exact ⟨hown, fun b hb' => .inl (Nat.le_trans h.mem.frm.size (hb b hb'))⟩
  · intro r' row' e _ b hb1 hb2
    have := all2_live_row h.mem r' row' e b hb2
    have hb3 : u.ownBlock = some b := by simpa [rblk] using hb1
    have := hb b hb3
    omega
  · intro o ob e _ hb1
    have := all2_live_ob h.mem o ob e
    have hb3 : u.ownBlock = some (ρ.os o) := by simpa [rblk] using hb1
    have := hb _ hb3
    omega
  · refine ⟨by simp [St.newRow], fun row hr => ?_⟩
    simp only [St.newRow, look, if_true] at hr
    injection hr with hr; subst hr
    have hu : ∃ A c, u = .slice A xs.length c := by
      rcases hown.2 with ⟨e1, e2⟩ | ⟨g, cap, cur, e1, _⟩
      · exact ⟨none, 0, by rw [e1, e2]⟩
      · exact ⟨_, cap, e1⟩
    obtain ⟨A, c, hu⟩ := hu
    exact ⟨A, xs.length, c, by simp [Rho.row, hu], hu, Nat.le_refl _⟩

theorem does_makeSlice (hC : C.Ok) (h : Rel C.P w0 F G U nt ρ st a w) (hpr : ∀ o ∈ st.pr, o < st.nx) {o : Oper} {T E : Nat} {x y : Operand} {n : Int} {el : El} (ho : o.op = .makeSlice T x y) (hT : C.lay T = some (.sl E)) (hE : C.el E = some el) (hx : (ev st x).int? = some n) (hy : (ev st y).int? = some n)
    (h0 : 0 ≤ n) (h1 : n.toNat * el.bytes ≤ 281474976710656) (hd : dOk nt o.dst = true) :
    Does C o a w (RR C w0 F G U nt ((st.newRow ⟨true, el, List.replicate n.toNat el.zero⟩).putD o.dst (.pv (.one (.ref st.nx n.toNat))))) := by
  obtain ⟨hel, hET⟩ := hC.el E el hE
  obtain ⟨i, z, hi1, hi2, hi3, hi4, hi5⟩ := hel.info
  rw [hET] at hi1
  have hty := (hC.lay T _ hT).1
  obtain ⟨k, e1⟩ := int?_ok (ev_ok h x) hx
  obtain ⟨k', e2⟩ := int?_ok (ev_ok h y) hy
  obtain ⟨m, rfl⟩ := Int.eq_ofNat_of_zero_le h0
  rw [Int.toNat_natCast] at *
  have hm : m ≤ maxLen := by
    have := Nat.le_mul_of_pos_right m hel.bpos
    simp only [maxLen]; omega
  obtain ⟨w', hr, hown, hg⟩ := run_make_full (P := C.P) w 0 T E i z el.sz hty hi1 hi4 hi2 k k' m (by rw [hi3, Nat.mul_comm]; exact h1) hm (Nat.zero_le _)
  have hmc : (madeCells z.cells (m * el.sz)).toList = el.flat (List.replicate m el.zero) := zero_flat hel hi5 m
  rw [hmc] at hown
  obtain ⟨ρ', hr'⟩ := h.newOwn' hpr hel (List.replicate m el.zero) hg (by rw [List.length_replicate, hET]; exact hown) (fun b hb => by simp only [Value.ownBlock] at hb; injection hb with hb; omega) o.dst hd
  rw [List.length_replicate] at hr'
  refine ⟨_, _, .inl ?_, ρ', hr'⟩
  simp only [execOp, ho, e1, e2, Sem.run_bind, hr, Result.andThen_ok, Sem.run_pure]

/-- The head of a row of the call's own is one, too. -/
theorem own_prefix {el : El} (hel : el.Ok C.P) {A : Option Addr} {m c n : Nat} {xs : List el.α} (h : w.ownsRow 0 el.T el.sz (.slice A m c) xs.length (el.flat xs)) (hn : n ≤ xs.length) : w.ownsRow 0 el.T el.sz (.slice A n c) (xs.take n).length (el.flat (xs.take n)) := by
  have hl : (xs.take n).length = n := by rw [List.length_take]; omega
  refine ⟨flat_length hel _, ?_⟩
  rw [hl]
  rcases h.2 with ⟨e, h0⟩ | ⟨g, cap, cur, e, h1, h2, h3, h4, h5, h6⟩
  · injection e with e1 e2 e3; subst e1; subst e3
    have : n = 0 := by omega
    subst this
    exact .inl ⟨rfl, rfl⟩
  · injection e with e1 e2 e3
    refine .inr ⟨g, cap, cur, by rw [e1, e3], h1, h2, by omega, h4, h5, ?_⟩
    rw [take_flat hel, ← h6, List.take_take]
    congr 1
    have := Nat.mul_le_mul_right el.sz hn
    omega

theorem enc_one {el : El} (hel : el.Ok C.P) (xs : List el.α) : ∀ u ∈ el.flat xs, u.oneCell' = true := by
  intro u hu
  simp only [El.flat, List.mem_flatMap] at hu
  obtain ⟨x, _, hx⟩ := hu
  exact hel.one x u hx

theorem run_append (hC : C.Ok) {T ty : Nat} {el : El} (hel : el.Ok C.P) (hT : C.lay T = some (.sl el.T)) {v : Value} {xs : List el.α} (hown : w.ownsRow 0 el.T el.sz v xs.length (el.flat xs)) {A : Option Addr} {m c : Nat} {ys : List el.α} (hl : ys.length = m)
    (hc : 0 < m → ∃ ad, A = some ad ∧ ∀ k u, (el.flat ys)[k]? = some u → w.cell? (ad.add k) = some u) (hb : (xs.length + m) * el.bytes ≤ 140737488355328) :
    ∃ v' w', (Builtin.append_ #[T, T] ty #[v, .slice A m c]).run C.P w = .ok v' w' ∧ w'.ownsRow 0 el.T el.sz v' (xs ++ ys).length (el.flat (xs ++ ys)) ∧ w.grownBy w' v.ownBlock ∧ (v'.ownBlock = v.ownBlock ∨ v'.ownBlock = some w.heap.size) := by
  obtain ⟨i, z, hi1, hi2, hi3, hi4, hi5⟩ := hel.info
  have hty := (hC.lay T _ hT).1
  have hlen : xs.length + m ≤ 140737488355328 := Nat.le_trans (Nat.le_mul_of_pos_right _ hel.bpos) hb
  rcases A with _ | ad
  · have h0 : m = 0 := by
      rcases Nat.eq_zero_or_pos m with h0 | h0
      · exact h0
      · obtain ⟨ad, h, _⟩ := hc h0; cases h
    subst h0
    obtain rfl : ys = [] := List.eq_nil_of_length_eq_zero hl
    refine ⟨v, w, ?_, by simpa using hown, World.grownBy.refl w _, .inl rfl⟩
    rcases hown.2 with ⟨rfl, hn⟩ | ⟨g, cap, cur, rfl, _, _, hnc, _⟩
    · simp [Builtin.append_, run_underlying hty, sizeOf, typeInfo, hi1, Builtin.lenOf, Builtin.firstCells]
    · simp [Builtin.append_, run_underlying hty, sizeOf, typeInfo, hi1, Builtin.lenOf, Builtin.firstCells, hnc, storeCells]
  · have hcells : ∀ j u, (el.flat ys)[j]? = some u → w.cell? (ad.add j) = some u := by
      intro j u hu
      have hp : 0 < m := by
        rcases Nat.eq_zero_or_pos m with h0 | h0
        · subst h0; rw [List.eq_nil_of_length_eq_zero hl] at hu; simp [El.flat] at hu
        · exact h0
      obtain ⟨ad', h', hc'⟩ := hc hp
      injection h' with h'; subst h'
      exact hc' j u hu
    have hzs : z.cells.size = el.sz := by rw [← Array.length_toList, hi5, hel.len]
    obtain ⟨v1, w1, hr, h2, h3, _, h5⟩ := run_append_own_at (P := C.P) w 0 T ty el.T i z el.sz el.bytes hty hi1 hi4 hi2 hi3 hzs hel.pos v xs.length (el.flat xs) hown ad m c (el.flat ys) (by rw [flat_length hel, hl]) hcells (enc_one hel ys) (by simp only [maxLen]; omega) hb (Nat.zero_le _)
    exact ⟨v1, w1, hr, by rw [List.length_append, hl, flat_append]; exact h2, h3, h5⟩

theorem row_rd {P : Program} {v : Value} {row : Row} (h : rowOk P w0 F w v row) : rdRow w row.el v row.xs := by
  have := h.2
  split at this
  · exact own_rd this.1
  · exact this

/-- What a slice over a row has for append to take. -/
theorem src_cells {P : Program} {v : Value} {row : Row} (h : rowOk P w0 F w v row) {A : Option Addr} {m m' c : Nat} (hv : v = .slice A m' c) (hm : m ≤ row.xs.length) {el : El} (hel : el.Ok P) {ys : List el.α} (hy : convRow el row.el (row.xs.take m) = some ys) :
    ys.length = m ∧ (0 < m → ∃ ad, A = some ad ∧ ∀ k u, (el.flat ys)[k]? = some u → w.cell? (ad.add k) = some u) := by
  obtain ⟨h1, h2⟩ := convRow_ok hel hy
  refine ⟨by rw [h2, List.length_take]; omega, fun hp => ?_⟩
  obtain ⟨A', c', e, h3, h4, h5⟩ := row_rd h
  rw [hv] at e; injection e with e _ _
  obtain ⟨ad, e2, hc⟩ := h5 (by omega)
  refine ⟨ad, e.trans e2, fun k u hu => hc k u ?_⟩
  rw [h1, take_flat h.1, List.getElem?_take] at hu
  split at hu
  · exact hu
  · cases hu

theorem does_append (hC : C.Ok) (h : Rel C.P w0 F G U nt ρ st a w) (hpr : ∀ o ∈ st.pr, o < st.nx) {o : Oper} {T : Nat} {x y : Operand} {r n r2 m : Nat} {row row2 : Row} {ys : List row.el.α} (ho : o.op = .call { callee := .builtin .append, args := #[x, y], argTypes := #[T, T] })
    (hx : ev st x = .pv (.one (.ref r n))) (hy : ev st y = .pv (.one (.ref r2 m))) (hr : look st.rw r = some row) (hown : row.own = true) (hr2 : look st.rw r2 = some row2) (hT : C.lay T = some (.sl row.el.T)) (hc : convRow row.el row2.el (row2.xs.take m) = some ys)
    (hb : (n + m) * row.el.bytes ≤ 140737488355328) (hd : dOk nt o.dst = true) :
    Does C o a w (RR C w0 F G U nt (((st.kill r).newRow ⟨true, row.el, row.xs.take n ++ ys⟩).putD o.dst (.pv (.one (.ref st.nx (n + m)))))) := by
  have hv := ev_ok h x
  rw [hx] at hv
  obtain ⟨A, m1, c, e1, hp, hn⟩ := hv.2 row hr
  have hv2 := ev_ok h y
  rw [hy] at hv2
  obtain ⟨A2, m2, c2, e2, hp2, hn2⟩ := hv2.2 row2 hr2
  have hrow := h.mem.row r row hr
  have hel := hrow.1
  have hro := hrow.2
  rw [if_pos hown, e1] at hro
  have hpre := own_prefix hel hro.1 hn
  obtain ⟨hl, hcells⟩ := src_cells (h.mem.row r2 row2 hr2) e2 hn2 hel hc
  have hnl : (row.xs.take n).length = n := by rw [List.length_take]; omega
  obtain ⟨v', w', hrun, ho', hg, hbl⟩ := run_append hC (ty := o.type) hel hT hpre hl (c := c2) hcells (by rw [hnl]; exact hb)
  have hob : (Value.slice A n c).ownBlock = (ρ.rs r).ownBlock := by rw [e1]; cases A <;> rfl
  rw [hob] at hg hbl
  have hrb : rblk row (ρ.rs r) = (ρ.rs r).ownBlock := by simp [rblk, hown]
  have hokb : ∀ k, (ρ.rs r).ownBlock = some k → okb w0 F k := by
    intro k hk
    have := hrow.2
    rw [if_pos hown] at this
    exact this.2 k hk
  have keyk : ∀ r' row', look (st.kill r).rw r' = some row' → r ≠ r' ∧ look st.rw r' = some row' := by
    intro r' row' e
    simp only [St.kill, look_del] at e
    split at e
    · cases e
    · rename_i hne; exact ⟨hne, e⟩
  have hm1 : Mem C.P w0 F ρ (st.kill r) w' := (h.mem.kill r).grown hg hokb (fun r' row' e k hk => by
      obtain ⟨hne, e⟩ := keyk r' row' e
      exact h.mem.rr r r' row row' hr e (.inl hown) hne k (by rw [hrb]; exact hk)) (fun o' ob e hk => by
      have := h.mem.ro r o' row ob hr e (.inl hown)
      rw [hrb] at this
      exact this hk)
  have hm2 := hm1.newRow (row := ⟨true, row.el, row.xs.take n ++ ys⟩) (u := v') ⟨hel, by
      rw [if_pos rfl]
      refine ⟨ho', fun b hb' => ?_⟩
      rcases hbl with e | e
      · rw [e] at hb'; exact hokb b hb'
      · rw [e] at hb'; injection hb' with hb'; subst hb'; exact .inl h.mem.frm.size⟩ (by
      intro r' row' e _ b hb1 hb2
      obtain ⟨hne, e⟩ := keyk r' row' e
      have hb3 : v'.ownBlock = some b := by simpa [rblk] using hb1
      rcases hbl with e5 | e5
      · exact h.mem.rr r r' row row' hr e (.inl hown) hne b (by rw [hrb, ← e5]; exact hb3) hb2
      · have := all2_live_row h.mem r' row' e b hb2
        rw [e5] at hb3; injection hb3 with hb3; omega) (by
      intro o' ob e _ hb1
      have hb3 : v'.ownBlock = some (ρ.os o') := by simpa [rblk] using hb1
      rcases hbl with e5 | e5
      · have := h.mem.ro r o' row ob hr e (.inl hown)
        rw [hrb, ← e5] at this
        exact this hb3
      · have := all2_live_ob h.mem o' ob e
        rw [e5] at hb3; injection hb3 with hb3; omega)
  refine ⟨v', w', .inl ?_, _, h.next hm2 rfl (fun v c hs => newRow_sc (kill_sc hs)) rfl rfl rfl (map_row hpr v') o.dst v' _ ?_ hd⟩
  · simp only [execOp, ho, resolve, invoke, builtin, Sem.run_bind, Sem.run_pure, Result.andThen_ok, List.map_toArray, List.map_cons, List.map_nil, hp, hp2, hrun]
  · refine ⟨by simp [St.newRow, St.kill], fun row' hr' => ?_⟩
    have hxl : (row.xs.take n ++ ys).length = n + m := by rw [List.length_append, hnl, hl]
    simp only [St.newRow, St.kill, look, if_true] at hr'
    injection hr' with hr'; subst hr'
    have hu : ∃ A c, v' = .slice A (n + m) c := by
      rcases ho'.2 with ⟨e1, e2⟩ | ⟨g, cap, cur, e1, _⟩
      · exact ⟨none, 0, by rw [hxl] at e2; rw [e1, e2]⟩
      · exact ⟨_, cap, by rw [hxl] at e1; exact e1⟩
    obtain ⟨A', c', hu⟩ := hu
    exact ⟨A', n + m, c', by simp [Rho.row, St.kill, hu], hu, by rw [hxl]; exact Nat.le_refl _⟩

/-- Onto a nil slice. -/
theorem does_append_nil (hC : C.Ok) (h : Rel C.P w0 F G U nt ρ st a w) (hpr : ∀ o ∈ st.pr, o < st.nx) {o : Oper} {T E : Nat} {el : El} {x y : Operand} {r2 m : Nat} {row2 : Row} {ys : List el.α} (ho : o.op = .call { callee := .builtin .append, args := #[x, y], argTypes := #[T, T] })
    (hx : (ev st x).val? = some (.slice none 0 0)) (hy : ev st y = .pv (.one (.ref r2 m))) (hr2 : look st.rw r2 = some row2) (hT : C.lay T = some (.sl E)) (hE : C.el E = some el) (hc : convRow el row2.el (row2.xs.take m) = some ys)
    (hb : m * el.bytes ≤ 140737488355328) (hd : dOk nt o.dst = true) :
    Does C o a w (RR C w0 F G U nt ((st.newRow ⟨true, el, ys⟩).putD o.dst (.pv (.one (.ref st.nx m))))) := by
  obtain ⟨hel, hET⟩ := hC.el E el hE
  have e1 := val?_ok (ev_ok h x) hx
  have hv2 := ev_ok h y
  rw [hy] at hv2
  obtain ⟨A2, m2, c2, e2, hp2, hn2⟩ := hv2.2 row2 hr2
  obtain ⟨hl, hcells⟩ := src_cells (h.mem.row r2 row2 hr2) e2 hn2 hel hc
  obtain ⟨v', w', hrun, ho', hg, hbl⟩ := run_append hC (ty := o.type) (xs := []) hel (by rw [hET]; exact hT) (World.ownsRow_nil w 0 el.T el.sz) hl (c := c2) hcells (by simpa using hb)
  obtain ⟨ρ', hr'⟩ := h.newOwn' hpr hel ys (u := v') hg (by simpa using ho') (fun b hb' => by
    rcases hbl with e5 | e5
    · rw [e5] at hb'; cases hb'
    · rw [e5] at hb'; injection hb' with hb'; omega) o.dst hd
  rw [hl] at hr'
  refine ⟨v', w', .inl ?_, ρ', hr'⟩
  simp only [execOp, ho, resolve, invoke, builtin, Sem.run_bind, Sem.run_pure, Result.andThen_ok, List.map_toArray, List.map_cons, List.map_nil, e1, hp2, hrun]

end
end Go.Proofs.Ytjmhffbenbiieaa.Ev
