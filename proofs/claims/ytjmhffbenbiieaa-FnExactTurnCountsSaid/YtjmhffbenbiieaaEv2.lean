/- Part 2 of the abstract states: what a step of the world does to them. -/
import Derived.Test.YtjmhffbenbiieaaEv1
set_option linter.unusedVariables false
set_option linter.unusedSimpArgs false
namespace Go.Proofs.Ytjmhffbenbiieaa.Ev
open Go.RowKit

theorem look_cons {β : Type _} (s t : Nat) (v : β) (l : List (Nat × β)) : look ((s, v) :: l) t = if s = t then some v else look l t := rfl

/-! ### 1. The frame of the world -/
theorem Frm.refl (w : World) (F : Nat → Prop) : Frm w F w := ⟨rfl, rfl, rfl, Nat.le_refl _, fun _ _ _ => rfl⟩
theorem Frm.grown {w0 w w' : World} {F : Nat → Prop} (h : Frm w0 F w) {b : Option Nat} (hg : w.grownBy w' b) (hb : ∀ k, b = some k → okb w0 F k) : Frm w0 F w' := by
  refine ⟨hg.os.trans h.os, hg.tape.trans h.tape, hg.output.trans h.output, Nat.le_trans h.size hg.size, fun k hk hF => ?_⟩
  rw [hg.block k (Nat.lt_of_lt_of_le hk h.size) ?_, h.block k hk hF]
  intro e
  rcases hb k e.symm with h1 | h1
  · omega
  · exact hF h1

theorem lt_of_some {α : Type _} {a : Array α} {k : Nat} {x : α} (h : a[k]? = some x) : k < a.size := (Array.getElem?_eq_some_iff.1 h).1
theorem add_block (ad : Addr) (k : Nat) : (ad.add k).block = ad.block := by unfold Addr.add; split <;> rfl
theorem enc_ne {P : Program} {e : El} (h : e.Ok P) (x : e.α) : ∃ u us, e.enc x = u :: us := by
  cases he : e.enc x with
  | nil => have := h.len x; rw [he] at this; have := h.pos; simp at *; omega
  | cons u us => exact ⟨u, us, rfl⟩
theorem rdRow.lt {P : Program} {w : World} {e : El} (he : e.Ok P) {v : Value} {xs : List e.α} (h : rdRow w e v xs) (hp : xs.length ≠ 0) : ∀ b, v.ownBlock = some b → b < w.heap.size := by
  obtain ⟨A, c, rfl, h1, h2, h3⟩ := h
  intro b hb
  obtain ⟨ad, rfl, hc⟩ := h3 (by omega)
  cases xs with
  | nil => simp at hp
  | cons x xs =>
    obtain ⟨u, us, hu⟩ := enc_ne he x
    have h0 := hc 0 u (by simp [El.flat, hu])
    have := World.block_lt_of_cell? w _ h0
    rw [add_block] at this
    injection hb with hb
    omega
theorem rdRow.kept {w w' : World} {e : El} {v : Value} {xs : List e.α} (h : rdRow w e v xs) (hb : xs.length ≠ 0 → ∀ b, v.ownBlock = some b → w'.heap[b]? = w.heap[b]?) : rdRow w' e v xs := by
  obtain ⟨A, c, rfl, h1, h2, h3⟩ := h
  refine ⟨A, c, rfl, h1, h2, fun hp => ?_⟩
  obtain ⟨ad, rfl, hc⟩ := h3 hp
  refine ⟨ad, rfl, fun k u hu => ?_⟩
  have := hc k u hu
  rwa [World.cell?_of_block]
  rw [add_block]
  exact hb (by omega) ad.block rfl

theorem rowOk.lt {P : Program} {w0 w : World} {F : Nat → Prop} {v : Value} {row : Row} (h : rowOk P w0 F w v row) : ∀ b, rblk row v = some b → b < w.heap.size := by
  intro b hb
  unfold rblk at hb
  split at hb
  · cases hb
  · rename_i hn
    obtain ⟨hel, h⟩ := h
    split at h
    · exact (h.1.lt b hb).2
    · rename_i ho
      exact h.lt hel (fun e => hn ⟨by simpa using ho, e⟩) b hb

/-- What a world's step, in which one block may turn, leaves of a row. -/
theorem rowOk.grown {P : Program} {w0 w w' : World} {F : Nat → Prop} {v : Value} {row : Row} (h : rowOk P w0 F w v row) {b : Option Nat} (hg : w.grownBy w' b)
    (hne : ∀ k, b = some k → rblk row v ≠ some k) : rowOk P w0 F w' v row := by
  have hlt := h.lt
  obtain ⟨hel, h⟩ := h
  refine ⟨hel, ?_⟩
  split
  · rename_i ho
    have hb : rblk row v = v.ownBlock := by simp [rblk, ho]
    rw [if_pos ho] at h
    refine ⟨h.1.kept hg ?_, h.2⟩
    cases hv : v.ownBlock with
    | none => exact .inl rfl
    | some k => exact .inr fun e => hne k e.symm (by rw [hb, hv])
  · rename_i ho
    rw [if_neg ho] at h
    refine h.kept fun hp k hk => ?_
    have hb : rblk row v = some k := by rw [← hk]; unfold rblk; rw [if_neg (fun e => hp e.2)]
    exact hg.block k (hlt k hb) fun e => hne k e.symm hb

theorem obOk.grown {w0 w w' : World} {F : Nat → Prop} {ρ : Rho} {st : St} {g : Nat} {ob : Ob} (h : obOk w0 F ρ st w g ob) {b : Option Nat} (hg : w.grownBy w' b) (hne : b ≠ some g) : obOk w0 F ρ st w' g ob := by
  obtain ⟨h1, vs, h2, h3⟩ := h
  refine ⟨h1, vs, ?_, h3⟩
  rw [hg.block g (lt_of_some h2) (fun e => hne e.symm)]
  exact h2

/-- A step in which only blocks that the state does not know may turn. -/
theorem Mem.grown {P : Program} {w0 w w' : World} {F : Nat → Prop} {ρ : Rho} {st : St} (h : Mem P w0 F ρ st w) {b : Option Nat} (hg : w.grownBy w' b) (hb : ∀ k, b = some k → okb w0 F k)
    (hr : ∀ r row, look st.rw r = some row → ∀ k, b = some k → rblk row (ρ.rs r) ≠ some k) (ho : ∀ o ob, look st.ob o = some ob → b ≠ some (ρ.os o)) : Mem P w0 F ρ st w' :=
  ⟨h.frm.grown hg hb, h.rlt, h.olt, fun r row e => (h.row r row e).grown hg (hr r row e), fun o ob e => (h.ob o ob e).grown hg (ho o ob e), h.rr, h.oo, h.ro⟩
theorem Mem.alloc {P : Program} {w0 w : World} {F : Nat → Prop} {ρ : Rho} {st : St} (h : Mem P w0 F ρ st w) (o : Obj) : Mem P w0 F ρ st (w.alloc o) :=
  h.grown (World.grownBy_alloc w o none) (by simp) (by simp) (by simp)

/-! ### 2. States that say the same of a scalar -/
theorem scOk.congr {ρ ρ' : Rho} {st st' : St} {v : Value} {c : SC} (h : scOk ρ st v c) (hn : st.nx ≤ st'.nx) (hr : ∀ r, r < st.nx → look st'.rw r = look st.rw r ∧ ρ'.rs r = ρ.rs r) (ho : ∀ o, o < st.nx → look st'.ob o = look st.ob o ∧ ρ'.os o = ρ.os o) : scOk ρ' st' v c := by
  cases c with
  | val x => exact h
  | ref r n =>
    refine ⟨Nat.lt_of_lt_of_le h.1 hn, fun row hrow => ?_⟩
    rw [(hr r h.1).1] at hrow
    rw [(hr r h.1).2]
    exact h.2 row hrow
  | ptr o off =>
    refine ⟨Nat.lt_of_lt_of_le h.1 hn, fun ob hob => ?_⟩
    rw [(ho o h.1).1] at hob
    rw [(ho o h.1).2]
    exact h.2 ob hob
  | eptr r i j =>
    refine ⟨Nat.lt_of_lt_of_le h.1 hn, fun row hrow => ?_⟩
    rw [(hr r h.1).1] at hrow
    rw [(hr r h.1).2]
    exact h.2 row hrow
  | clo f os =>
    refine ⟨fun o hm => Nat.lt_of_lt_of_le (h.1 o hm) hn, fun hs => ?_⟩
    rw [h.2 fun o hm => by rw [← (ho o (h.1 o hm)).1]; exact hs o hm]
    congr 2
    apply List.map_congr_left
    intro o hm
    rw [(ho o (h.1 o hm)).2]
  | undef => trivial
theorem pvOk.congr {ρ ρ' : Rho} {st st' : St} {v : Value} {p : PV} (h : pvOk ρ st v p) (hi : ∀ v c, scOk ρ st v c → scOk ρ' st' v c) : pvOk ρ' st' v p := by
  cases p with
  | one c => exact hi _ _ h
  | agg cs => obtain ⟨vs, e, hv⟩ := h; exact ⟨vs, e, hv.imp fun x y _ => hi x y⟩
theorem svOk.congr {ρ ρ' : Rho} {st st' : St} {v : Value} {s : SV} (h : svOk ρ st v s) (hi : ∀ v c, scOk ρ st v c → scOk ρ' st' v c) : svOk ρ' st' v s := by
  cases s with
  | pv p => exact pvOk.congr h hi
  | tup ps => obtain ⟨vs, e, hv⟩ := h; exact ⟨vs, e, hv.imp fun x y _ hh => pvOk.congr hh hi⟩
theorem obOk.congr {w0 w : World} {F : Nat → Prop} {ρ ρ' : Rho} {st st' : St} {g : Nat} {ob : Ob} (h : obOk w0 F ρ st w g ob) (hi : ∀ v c, scOk ρ st v c → scOk ρ' st' v c) : obOk w0 F ρ' st' w g ob := by
  obtain ⟨h1, vs, h2, h3⟩ := h
  exact ⟨h1, vs, h2, h3.imp fun x y _ => hi x y⟩

/-! ### 3. New rows, new objects, rows that turn -/
def St.newRow (st : St) (row : Row) : St := { st with rw := (st.nx, row) :: st.rw, nx := st.nx + 1 }
def St.newOb (st : St) (ob : Ob) : St := { st with ob := (st.nx, ob) :: st.ob, nx := st.nx + 1 }
def St.put (st : St) (t : Nat) (s : SV) : St := { st with sl := (t, s) :: st.sl }
/-- Row r is known no more. -/
def del {β : Type _} : List (Nat × β) → Nat → List (Nat × β)
  | [], _ => []
  | (s, v) :: r, t => if s = t then del r t else (s, v) :: del r t
theorem look_del {β : Type _} (l : List (Nat × β)) (t u : Nat) : look (del l t) u = if t = u then none else look l u := by
  induction l with
  | nil => simp [del, look]
  | cons p l ih =>
    obtain ⟨s, v⟩ := p
    simp only [del]
    split
    · rename_i h; subst h
      rw [ih]; split
      · rfl
      · rename_i h2; simp [look, h2]
    · rename_i h
      simp only [look, ih]
      split
      · rename_i h2; subst h2; rw [if_neg (fun e => h e.symm)]
      · rfl
def St.kill (st : St) (r : Nat) : St := { st with rw := del st.rw r }
def St.setRow (st : St) (r : Nat) (row : Row) : St := { st with rw := (r, row) :: st.rw }
def St.setOb (st : St) (o : Nat) (ob : Ob) : St := { st with ob := (o, ob) :: st.ob }

def Rho.row (ρ : Rho) (r : Nat) (v : Value) : Rho := { ρ with rs := fun x => if x = r then v else ρ.rs x }
def Rho.obj (ρ : Rho) (o g : Nat) : Rho := { ρ with os := fun x => if x = o then g else ρ.os x }

theorem newRow_sc {ρ : Rho} {st : St} {row : Row} {u : Value} {v : Value} {c : SC} (h : scOk ρ st v c) : scOk (ρ.row st.nx u) (st.newRow row) v c := by
  refine h.congr (by simp [St.newRow]) (fun r hr => ?_) (fun o _ => ⟨rfl, rfl⟩)
  have : ¬ st.nx = r := by omega
  have h2 : ¬ r = st.nx := by omega
  exact ⟨by simp [St.newRow, look, this], by simp [Rho.row, h2]⟩
theorem newOb_sc {ρ : Rho} {st : St} {ob : Ob} {g : Nat} {v : Value} {c : SC} (h : scOk ρ st v c) : scOk (ρ.obj st.nx g) (st.newOb ob) v c := by
  refine h.congr (by simp [St.newOb]) (fun r hr => ⟨rfl, rfl⟩) (fun o hr => ?_)
  have : ¬ st.nx = o := by omega
  have h2 : ¬ o = st.nx := by omega
  exact ⟨by simp [St.newOb, look, this], by simp [Rho.obj, h2]⟩

/-- A new row, which lies apart from all that is known. -/
theorem Mem.newRow {P : Program} {w0 w : World} {F : Nat → Prop} {ρ : Rho} {st : St} (h : Mem P w0 F ρ st w) {row : Row} {u : Value} (hrow : rowOk P w0 F w u row)
    (hr : ∀ r' row', look st.rw r' = some row' → (row.own = true ∨ row'.own = true) → ∀ b, rblk row u = some b → rblk row' (ρ.rs r') ≠ some b)
    (ho : ∀ o ob, look st.ob o = some ob → (row.own = true ∨ ob.own = true) → rblk row u ≠ some (ρ.os o)) : Mem P w0 F (ρ.row st.nx u) (st.newRow row) w := by
  have key : ∀ r row', look (st.newRow row).rw r = some row' → (r = st.nx ∧ row' = row ∧ (ρ.row st.nx u).rs r = u) ∨ (r ≠ st.nx ∧ look st.rw r = some row' ∧ (ρ.row st.nx u).rs r = ρ.rs r) := by
    intro r row' e
    simp only [St.newRow, look] at e
    split at e
    · rename_i h1; injection e with e; exact .inl ⟨h1.symm, e.symm, by simp [Rho.row, h1]⟩
    · rename_i h1; have h2 : ¬ r = st.nx := fun e2 => h1 e2.symm; exact .inr ⟨h2, e, by simp [Rho.row, h2]⟩
  refine ⟨h.frm, fun r row' e => ?_, fun o ob e => Nat.lt_succ_of_lt (h.olt o ob e), fun r row' e => ?_, fun o ob e => (h.ob o ob e).congr fun v c => newRow_sc, fun r r' row1 row2 e1 e2 o1 hne b hb => ?_, h.oo, fun r o row1 ob e1 e2 ow => ?_⟩
  · rcases key r row' e with ⟨rfl, _⟩ | ⟨_, e, _⟩
    · simp [St.newRow]
    · exact Nat.lt_succ_of_lt (h.rlt r row' e)
  · rcases key r row' e with ⟨_, rfl, e3⟩ | ⟨_, e, e3⟩
    · rw [e3]; exact hrow
    · rw [e3]; exact h.row r row' e
  · rcases key r row1 e1 with ⟨h1, h2, e3⟩ | ⟨h1, h2, e3⟩ <;> rcases key r' row2 e2 with ⟨h1', h2', e3'⟩ | ⟨h1', h2', e3'⟩
    · exact absurd (h1.trans h1'.symm) hne
    · rw [e3] at hb; rw [e3']; subst h2; exact hr r' row2 h2' o1 b hb
    · rw [e3] at hb; rw [e3']; subst h2'
      intro hc
      exact hr r row1 h2 o1.symm b hc hb
    · rw [e3] at hb; rw [e3']; exact h.rr r r' row1 row2 h2 h2' o1 hne b hb
  · rcases key r row1 e1 with ⟨h1, h2, e3⟩ | ⟨h1, h2, e3⟩
    · rw [e3]; subst h2; exact ho o ob e2 ow
    · rw [e3]; exact h.ro r o row1 ob h2 e2 ow

/-- A new object, at a block that nothing else has. -/
theorem Mem.newOb {P : Program} {w0 w : World} {F : Nat → Prop} {ρ : Rho} {st : St} (h : Mem P w0 F ρ st w) {ob : Ob} {g : Nat} (hob : obOk w0 F ρ st w g ob)
    (hr : ∀ r row, look st.rw r = some row → rblk row (ρ.rs r) ≠ some g) (ho : ∀ o ob', look st.ob o = some ob' → ρ.os o ≠ g) : Mem P w0 F (ρ.obj st.nx g) (st.newOb ob) w := by
  have key : ∀ o ob', look (st.newOb ob).ob o = some ob' → (o = st.nx ∧ ob' = ob ∧ (ρ.obj st.nx g).os o = g) ∨ (o ≠ st.nx ∧ look st.ob o = some ob' ∧ (ρ.obj st.nx g).os o = ρ.os o) := by
    intro o ob' e
    simp only [St.newOb, look] at e
    split at e
    · rename_i h1; injection e with e; exact .inl ⟨h1.symm, e.symm, by simp [Rho.obj, h1]⟩
    · rename_i h1; have h2 : ¬ o = st.nx := fun e2 => h1 e2.symm; exact .inr ⟨h2, e, by simp [Rho.obj, h2]⟩
  refine ⟨h.frm, fun r row e => Nat.lt_succ_of_lt (h.rlt r row e), fun o ob' e => ?_, h.row, fun o ob' e => ?_, h.rr, fun o o' ob1 ob2 e1 e2 ow hne => ?_, fun r o row ob1 e1 e2 ow => ?_⟩
  · rcases key o ob' e with ⟨rfl, _⟩ | ⟨_, e, _⟩
    · simp [St.newOb]
    · exact Nat.lt_succ_of_lt (h.olt o ob' e)
  · rcases key o ob' e with ⟨_, rfl, e3⟩ | ⟨_, e, e3⟩
    · rw [e3]; exact hob.congr fun v c => newOb_sc
    · rw [e3]; exact (h.ob o ob' e).congr fun v c => newOb_sc
  · rcases key o ob1 e1 with ⟨h1, h2, e3⟩ | ⟨h1, h2, e3⟩ <;> rcases key o' ob2 e2 with ⟨h1', h2', e3'⟩ | ⟨h1', h2', e3'⟩
    · exact absurd (h1.trans h1'.symm) hne
    · rw [e3, e3']; exact fun e => ho o' ob2 h2' e.symm
    · rw [e3, e3']; exact ho o ob1 h2
    · rw [e3, e3']; exact h.oo o o' ob1 ob2 h2 h2' ow hne
  · rcases key o ob1 e2 with ⟨h1, h2, e3⟩ | ⟨h1, h2, e3⟩
    · rw [e3]; exact hr r row e1
    · rw [e3]; exact h.ro r o row ob1 e1 h2 ow

theorem kill_sc {ρ : Rho} {st : St} {r : Nat} {v : Value} {c : SC} (h : scOk ρ st v c) : scOk ρ (st.kill r) v c := by
  cases c with
  | ref r' n =>
    refine ⟨h.1, fun row hrow => ?_⟩
    simp only [St.kill, look_del] at hrow
    split at hrow
    · cases hrow
    · exact h.2 row hrow
  | eptr r' i j =>
    refine ⟨h.1, fun row hrow => ?_⟩
    simp only [St.kill, look_del] at hrow
    split at hrow
    · cases hrow
    · exact h.2 row hrow
  | _ => exact h
theorem Mem.kill {P : Program} {w0 w : World} {F : Nat → Prop} {ρ : Rho} {st : St} (h : Mem P w0 F ρ st w) (r : Nat) : Mem P w0 F ρ (st.kill r) w := by
  have key : ∀ r' row, look (st.kill r).rw r' = some row → r ≠ r' ∧ look st.rw r' = some row := by
    intro r' row e
    simp only [St.kill, look_del] at e
    split at e
    · cases e
    · rename_i hne; exact ⟨hne, e⟩
  exact ⟨h.frm, fun r' row e => h.rlt r' row (key r' row e).2, h.olt, fun r' row e => h.row r' row (key r' row e).2, fun o ob e => (h.ob o ob e).congr fun v c => kill_sc, fun r1 r2 row1 row2 e1 e2 => h.rr r1 r2 row1 row2 (key _ _ e1).2 (key _ _ e2).2, h.oo, fun r1 o row ob e1 => h.ro r1 o row ob (key _ _ e1).2⟩

/-- A row that is written in place: the same length, the same place. -/
theorem setRow_sc {ρ : Rho} {st : St} {r : Nat} {row row' : Row} (hr : look st.rw r = some row) (hl : row'.xs.length = row.xs.length) (hz : row'.el.sz = row.el.sz) {v : Value} {c : SC} (h : scOk ρ st v c) : scOk ρ (st.setRow r row') v c := by
  cases c with
  | ref r' n =>
    refine ⟨h.1, fun row2 hrow => ?_⟩
    simp only [St.setRow, look] at hrow
    split at hrow
    · rename_i e; subst e
      injection hrow with hrow
      subst hrow
      rw [hl]
      exact h.2 row hr
    · exact h.2 row2 hrow
  | eptr r' i j =>
    refine ⟨h.1, fun row2 hrow => ?_⟩
    simp only [St.setRow, look] at hrow
    split at hrow
    · rename_i e; subst e
      injection hrow with hrow
      subst hrow
      rw [hl, hz]
      exact h.2 row hr
    · exact h.2 row2 hrow
  | _ => exact h
theorem Mem.setRow {P : Program} {w0 w w' : World} {F : Nat → Prop} {ρ : Rho} {st : St} (h : Mem P w0 F ρ st w) {r : Nat} {row row' : Row} (hr : look st.rw r = some row) (ho : row.own = true) (ho' : row'.own = true) (hl : row'.xs.length = row.xs.length) (hz : row'.el.sz = row.el.sz)
    (hg : w.grownBy w' (ρ.rs r).ownBlock) (hrow : rowOk P w0 F w' (ρ.rs r) row') : Mem P w0 F ρ (st.setRow r row') w' := by
  have hok : ∀ k, (ρ.rs r).ownBlock = some k → okb w0 F k := by
    have := (h.row r row hr).2
    rw [if_pos ho] at this
    exact this.2
  have key : ∀ r' row2, look (st.setRow r row').rw r' = some row2 → (r' = r ∧ row2 = row') ∨ (r' ≠ r ∧ look st.rw r' = some row2) := by
    intro r' row2 e
    simp only [St.setRow, look] at e
    split at e
    · rename_i h1; injection e with e; exact .inl ⟨h1.symm, e.symm⟩
    · rename_i h1; exact .inr ⟨fun e2 => h1 e2.symm, e⟩
  have hrb : rblk row (ρ.rs r) = (ρ.rs r).ownBlock := by simp [rblk, ho]
  have hrb' : rblk row' (ρ.rs r) = (ρ.rs r).ownBlock := by simp [rblk, ho']
  refine ⟨h.frm.grown hg hok, fun r' row2 e => ?_, h.olt, fun r' row2 e => ?_, fun o ob e => ?_, fun r1 r2 row1 row2 e1 e2 o1 hne b hb => ?_, h.oo, fun r1 o row1 ob e1 e2 ow => ?_⟩
  · rcases key r' row2 e with ⟨rfl, _⟩ | ⟨_, e⟩
    · exact h.rlt r' row hr
    · exact h.rlt r' row2 e
  · rcases key r' row2 e with ⟨rfl, rfl⟩ | ⟨hne, e⟩
    · exact hrow
    · exact (h.row r' row2 e).grown hg fun k hk => h.rr r r' row row2 hr e (.inl ho) (fun e => hne e.symm) k (by rw [hrb]; exact hk)
  · exact ((h.ob o ob e).grown hg (by rw [← hrb]; exact h.ro r o row ob hr e (.inl ho))).congr fun v c => setRow_sc hr hl hz
  · have ex : ∀ r1 row1, look (st.setRow r row').rw r1 = some row1 → ∃ q, look st.rw r1 = some q ∧ q.own = row1.own ∧ rblk q (ρ.rs r1) = rblk row1 (ρ.rs r1) := by
      intro r1 row1 e1
      rcases key r1 row1 e1 with ⟨rfl, rfl⟩ | ⟨_, e⟩
      · exact ⟨row, hr, by rw [ho, ho'], by rw [hrb, hrb']⟩
      · exact ⟨row1, e, rfl, rfl⟩
    obtain ⟨q1, h1, h1', h1''⟩ := ex r1 row1 e1
    obtain ⟨q2, h2, h2', h2''⟩ := ex r2 row2 e2
    rw [← h2'']
    exact h.rr r1 r2 q1 q2 h1 h2 (by rw [h1', h2']; exact o1) hne b (by rw [h1'']; exact hb)
  · rcases key r1 row1 e1 with ⟨rfl, rfl⟩ | ⟨_, e⟩
    · rw [hrb', ← hrb]; exact h.ro r1 o row ob hr e2 (.inl ho)
    · exact h.ro r1 o row1 ob e e2 ow

/-- An object that is written. -/
theorem setOb_sc {ρ : Rho} {st : St} {o : Nat} {ob ob' : Ob} (hr : look st.ob o = some ob) {v : Value} {c : SC} (h : scOk ρ st v c) : scOk ρ (st.setOb o ob') v c := by
  cases c with
  | ptr o' off =>
    refine ⟨h.1, fun ob2 hob => ?_⟩
    simp only [St.setOb, look] at hob
    split at hob
    · rename_i e; subst e; exact h.2 ob hr
    · exact h.2 ob2 hob
  | clo f os =>
    refine ⟨h.1, fun hs => h.2 fun o' hm => ?_⟩
    have := hs o' hm
    simp only [St.setOb, look] at this
    split at this
    · rename_i e; subst e; rw [hr]; rfl
    · exact this
  | _ => exact h
theorem Mem.setOb {P : Program} {w0 w w' : World} {F : Nat → Prop} {ρ : Rho} {st : St} (h : Mem P w0 F ρ st w) {o : Nat} {ob ob' : Ob} (hr : look st.ob o = some ob) (how : ob.own = true) (how' : ob'.own = true)
    (hg : w.grownBy w' (some (ρ.os o))) (hob : obOk w0 F ρ st w' (ρ.os o) ob') : Mem P w0 F ρ (st.setOb o ob') w' := by
  have hok : ∀ k, some (ρ.os o) = some k → okb w0 F k := by intro k e; injection e with e; subst e; exact (h.ob o ob hr).1 how
  have key : ∀ o' ob2, look (st.setOb o ob').ob o' = some ob2 → (o' = o ∧ ob2 = ob') ∨ (o' ≠ o ∧ look st.ob o' = some ob2) := by
    intro r' row2 e
    simp only [St.setOb, look] at e
    split at e
    · rename_i h1; injection e with e; exact .inl ⟨h1.symm, e.symm⟩
    · rename_i h1; exact .inr ⟨fun e2 => h1 e2.symm, e⟩
  have ex : ∀ o' ob2, look (st.setOb o ob').ob o' = some ob2 → ∃ q, look st.ob o' = some q ∧ q.own = ob2.own := by
    intro o' ob2 e
    rcases key o' ob2 e with ⟨rfl, rfl⟩ | ⟨_, e⟩
    · exact ⟨ob, hr, by rw [how, how']⟩
    · exact ⟨ob2, e, rfl⟩
  refine ⟨h.frm.grown hg hok, h.rlt, fun o' ob2 e => ?_, fun r row e => ?_, fun o' ob2 e => ?_, h.rr, fun o1 o2 ob1 ob2 e1 e2 ow hne => ?_, fun r o1 row ob1 e1 e2 ow => ?_⟩
  · obtain ⟨q, hq, _⟩ := ex o' ob2 e; exact h.olt o' q hq
  · exact (h.row r row e).grown hg fun k hk => by injection hk with hk; subst hk; exact h.ro r o row ob e hr (.inr how)
  · rcases key o' ob2 e with ⟨rfl, rfl⟩ | ⟨hne, e⟩
    · exact hob.congr fun v c => setOb_sc hr
    · exact ((h.ob o' ob2 e).grown hg fun e3 => by injection e3 with e3; exact h.oo o o' ob ob2 hr e (.inl how) (fun e => hne e.symm) e3).congr fun v c => setOb_sc hr
  · obtain ⟨q1, h1, h1'⟩ := ex o1 ob1 e1
    obtain ⟨q2, h2, h2'⟩ := ex o2 ob2 e2
    exact h.oo o1 o2 q1 q2 h1 h2 (by rw [h1', h2']; exact ow) hne
  · obtain ⟨q, hq, hq'⟩ := ex o1 ob1 e2
    exact h.ro r o1 row q e1 hq (by rw [hq']; exact ow)

end Go.Proofs.Ytjmhffbenbiieaa.Ev
