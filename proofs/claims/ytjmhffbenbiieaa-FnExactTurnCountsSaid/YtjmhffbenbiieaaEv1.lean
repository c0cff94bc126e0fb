/- The abstract states by which this claim's Go functions are walked: slots, rows, objects; how a machine's frame and world stand to them. Part 1: the words. -/
import Derived.WalkKit
import Derived.Orders
import Derived.Deep.Quiet
import Derived.Maps.AppendAt
import Derived.RowKit
set_option linter.unusedVariables false
set_option linter.unusedSimpArgs false
namespace Go.Proofs.Ytjmhffbenbiieaa.Ev
open Go.RowKit

/-! ### 1. Abstract values -/

/-- A scalar: a plain value; a slice over row r, n elements from its head; a pointer to cell off of object o; to cell j of element i of row r; a closure over objects; not known. -/
inductive SC where
  | val (v : Value)
  | ref (r n : Nat)
  | ptr (o off : Nat)
  | eptr (r i j : Nat)
  | clo (f : Nat) (os : List Nat)
  | undef
/-- What a slot, or a result's part, may hold. -/
inductive PV where
  | one (c : SC)
  | agg (cs : List SC)
inductive SV where
  | pv (p : PV)
  | tup (ps : List PV)

/-- What the elements of a row are: type number, cells, bytes, zero, how they are written as cells and read back. -/
structure El where
  α : Type
  T : Nat
  sz : Nat
  bytes : Nat
  zero : α
  enc : α → List Value
  dec : List Value → Option α
structure El.Ok (P : Program) (e : El) : Prop where
  len : ∀ x, (e.enc x).length = e.sz
  pos : 0 < e.sz
  bpos : 0 < e.bytes
  one : ∀ x, ∀ v ∈ e.enc x, v.oneCell' = true
  enc_dec : ∀ cs x, e.dec cs = some x → e.enc x = cs
  info : ∃ i z, P.info? e.T = some i ∧ i.size = e.sz ∧ i.bytes = e.bytes ∧ i.zero = some z ∧ z.cells.toList = e.enc e.zero

def El.flat (e : El) (xs : List e.α) : List Value := xs.flatMap e.enc

structure Row where
  own : Bool
  el : El
  xs : List el.α
structure Ob where
  T : Nat
  cs : List SC
  own : Bool
/-- A state: slots, rows, objects (the newest entry counts), the next name; the names of the objects and rows that came in to be written. -/
structure St where
  sl : List (Nat × SV)
  rw : List (Nat × Row)
  ob : List (Nat × Ob)
  nx : Nat
  po : List Nat
  pr : List Nat

/-- Two lists stand to each other element by element. -/
inductive All2 {α β : Type _} (r : α → β → Prop) : List α → List β → Prop where
  | nil : All2 r [] []
  | cons {x y xs ys} : r x y → All2 r xs ys → All2 r (x :: xs) (y :: ys)
theorem All2.length {α β : Type _} {r : α → β → Prop} {xs : List α} {ys : List β} (h : All2 r xs ys) : xs.length = ys.length := by
  induction h with
  | nil => rfl
  | cons _ _ ih => simp [ih]
theorem All2.imp {α β : Type _} {r s : α → β → Prop} {xs : List α} {ys : List β} (h : All2 r xs ys) (hrs : ∀ x y, y ∈ ys → r x y → s x y) : All2 s xs ys := by
  induction h with
  | nil => exact .nil
  | cons hx _ ih => exact .cons (hrs _ _ (by simp) hx) (ih fun x y hy => hrs x y (by simp [hy]))
theorem All2.get {α β : Type _} {r : α → β → Prop} {xs : List α} {ys : List β} (h : All2 r xs ys) : ∀ {i : Nat} {y : β}, ys[i]? = some y → ∃ x, xs[i]? = some x ∧ r x y := by
  induction h with
  | nil => intro i y h; simp at h
  | cons hx _ ih =>
    intro i y h
    cases i with
    | zero => simp at h; subst h; exact ⟨_, by simp, hx⟩
    | succ i => simp at h; simpa using ih h
theorem All2.set {α β : Type _} {r : α → β → Prop} {xs : List α} {ys : List β} (h : All2 r xs ys) (i : Nat) {x : α} {y : β} (hxy : r x y) : All2 r (xs.set i x) (ys.set i y) := by
  induction h generalizing i with
  | nil => exact .nil
  | cons hx hr ih =>
    cases i with
    | zero => exact .cons hxy hr
    | succ i => exact .cons hx (ih i)
theorem All2.drop {α β : Type _} {r : α → β → Prop} {xs : List α} {ys : List β} (h : All2 r xs ys) (i : Nat) : All2 r (xs.drop i) (ys.drop i) := by
  induction h generalizing i with
  | nil => simp; exact .nil
  | cons hx hr ih =>
    cases i with
    | zero => exact .cons hx hr
    | succ i => simpa using ih i
theorem All2.take {α β : Type _} {r : α → β → Prop} {xs : List α} {ys : List β} (h : All2 r xs ys) (i : Nat) : All2 r (xs.take i) (ys.take i) := by
  induction h generalizing i with
  | nil => simp; exact .nil
  | cons hx hr ih =>
    cases i with
    | zero => exact .nil
    | succ i => exact .cons hx (ih i)
theorem All2.append {α β : Type _} {r : α → β → Prop} {xs xs' : List α} {ys ys' : List β} (h : All2 r xs ys) (h' : All2 r xs' ys') : All2 r (xs ++ xs') (ys ++ ys') := by
  induction h with
  | nil => exact h'
  | cons hx _ ih => exact .cons hx ih

def look {β : Type _} : List (Nat × β) → Nat → Option β
  | [], _ => none
  | (s, v) :: r, t => if s = t then some v else look r t

/-- Where the rows and objects lie. -/
structure Rho where
  rs : Nat → Value
  os : Nat → Nat

/-! ### 2. What is read -/

/-- A slice that is read: its cells. -/
def rdRow (w : World) (e : El) (v : Value) (xs : List e.α) : Prop :=
  ∃ A c, v = .slice A xs.length c ∧ xs.length ≤ c ∧ c ≤ maxLen ∧ (0 < xs.length → ∃ ad, A = some ad ∧ ∀ k u, (e.flat xs)[k]? = some u → w.cell? (ad.add k) = some u)

/-- The world has grown; of what was there only blocks of F may have turned. -/
structure Frm (w0 : World) (F : Nat → Prop) (w : World) : Prop where
  os : w.os = w0.os
  tape : w.tape = w0.tape
  output : w.output = w0.output
  size : w0.heap.size ≤ w.heap.size
  block : ∀ k, k < w0.heap.size → ¬ F k → w.heap[k]? = w0.heap[k]?

def okb (w0 : World) (F : Nat → Prop) (b : Nat) : Prop := w0.heap.size ≤ b ∨ F b

def scOk (ρ : Rho) (st : St) (v : Value) : SC → Prop
  | .val x => v = x
  | .ref r n => r < st.nx ∧ ∀ row, look st.rw r = some row → ∃ A m c, ρ.rs r = .slice A m c ∧ v = .slice A n c ∧ n ≤ row.xs.length
  | .ptr o off => o < st.nx ∧ ∀ ob, look st.ob o = some ob → v = .pointer (some ⟨ρ.os o, off, none⟩)
  | .eptr r i j => r < st.nx ∧ ∀ row, look st.rw r = some row → ∃ ad m c, ρ.rs r = .slice (some ad) m c ∧ v = .pointer (some (ad.add (i * row.el.sz + j))) ∧ i < row.xs.length
  | .clo f os => (∀ o ∈ os, o < st.nx) ∧ ((∀ o ∈ os, (look st.ob o).isSome) → v = .func (.func f) #[] (os.map fun o => Value.pointer (some ⟨ρ.os o, 0, none⟩)).toArray)
  | .undef => True
def pvOk (ρ : Rho) (st : St) (v : Value) : PV → Prop
  | .one c => scOk ρ st v c
  | .agg cs => ∃ vs : List Value, v = .agg vs.toArray ∧ All2 (scOk ρ st) vs cs
def svOk (ρ : Rho) (st : St) (v : Value) : SV → Prop
  | .pv p => pvOk ρ st v p
  | .tup ps => ∃ vs : List Value, v = .tuple vs.toArray ∧ All2 (pvOk ρ st) vs ps

/-- One row, as it lies. -/
def rowOk (P : Program) (w0 : World) (F : Nat → Prop) (w : World) (v : Value) (row : Row) : Prop :=
  row.el.Ok P ∧ if row.own = true then w.ownsRow 0 row.el.T row.el.sz v row.xs.length (row.el.flat row.xs) ∧ ∀ b, v.ownBlock = some b → okb w0 F b
    else rdRow w row.el v row.xs
/-- The block that a row holds, if it holds any. -/
def rblk (row : Row) (v : Value) : Option Nat := if row.own = false ∧ row.xs.length = 0 then none else v.ownBlock

def obOk (w0 : World) (F : Nat → Prop) (ρ : Rho) (st : St) (w : World) (g : Nat) (ob : Ob) : Prop :=
  (ob.own = true → okb w0 F g) ∧ ∃ vs : List Value, w.heap[g]? = some (.cells vs.toArray ob.T (0, 0)) ∧ All2 (scOk ρ st) vs ob.cs

/-- The state's memory is the world's. -/
structure Mem (P : Program) (w0 : World) (F : Nat → Prop) (ρ : Rho) (st : St) (w : World) : Prop where
  frm : Frm w0 F w
  rlt : ∀ r row, look st.rw r = some row → r < st.nx
  olt : ∀ o ob, look st.ob o = some ob → o < st.nx
  row : ∀ r row, look st.rw r = some row → rowOk P w0 F w (ρ.rs r) row
  ob : ∀ o ob, look st.ob o = some ob → obOk w0 F ρ st w (ρ.os o) ob
  rr : ∀ r r' row row', look st.rw r = some row → look st.rw r' = some row' → (row.own = true ∨ row'.own = true) → r ≠ r' → ∀ b, rblk row (ρ.rs r) = some b → rblk row' (ρ.rs r') ≠ some b
  oo : ∀ o o' ob ob', look st.ob o = some ob → look st.ob o' = some ob' → (ob.own = true ∨ ob'.own = true) → o ≠ o' → ρ.os o ≠ ρ.os o'
  ro : ∀ r o row ob, look st.rw r = some row → look st.ob o = some ob → (row.own = true ∨ ob.own = true) → rblk row (ρ.rs r) ≠ some (ρ.os o)

structure Rel (P : Program) (w0 : World) (F : Nat → Prop) (G : List Nat) (U : List Value) (nt : Nat) (ρ : Rho) (st : St) (a : Act) (w : World) : Prop where
  mem : Mem P w0 F ρ st w
  size : a.tmps.size = nt
  defers : a.defers = []
  slots : ∀ t sv, look st.sl t = some sv → svOk ρ st (a.tmps.getD t undef) sv
  pins : st.po.map ρ.os = G
  pinr : st.pr.map ρ.rs = U

def R (P : Program) (w0 : World) (F : Nat → Prop) (G : List Nat) (U : List Value) (nt : Nat) (st : St) (a : Act) (w : World) : Prop := ∃ ρ, Rel P w0 F G U nt ρ st a w

end Go.Proofs.Ytjmhffbenbiieaa.Ev
