/- Part 11: contracts of functions. -/
import Derived.Test.YtjmhffbenbiieaaEv10
set_option linter.unusedVariables false
set_option linter.unusedSimpArgs false
namespace Go.Proofs.Ytjmhffbenbiieaa.Ev
open Go.RowKit

/-- What an argument says: a plain value; a row that is read; the object, the row number k of those that are handed over to be written; a closure over such objects. -/
inductive AC1 where
  | val (v : Value)
  | row (el : El) (xs : List el.α)
  | obj (k : Nat)
  | wr (k n : Nat)
  | elp (k i sz : Nat)
  | fn (f : Nat) (ks : List Nat)
inductive AC where
  | one (c : AC1)
  | agg (cs : List AC1)
/-- What a cell of an object that is handed over says: .. a row of its own; a row that is read; a pointer to object k; behind the call: it is as it was; nothing is known. -/
inductive OC where
  | val (v : Value)
  | own (el : El) (xs : List el.α)
  | ro (el : El) (xs : List el.α)
  | ptr (k : Nat)
  | keep
  | any
structure HO where
  T : Nat
  cs : List OC
  own : Bool
def OC.ro1 : OC → OC
  | .own _ _ => .any
  | c => c
/-- The cells; of an object that is only read none has a row of its own. -/
def HO.ecs (h : HO) : List OC := match h.own with
  | true => h.cs
  | false => h.cs.map OC.ro1
theorem HO.ecs_own {h : HO} (e : h.own = true) : h.ecs = h.cs := by unfold HO.ecs; rw [e]
theorem ro1_ro1 (l : List OC) : (l.map OC.ro1).map OC.ro1 = l.map OC.ro1 := by
  rw [List.map_map]; apply List.map_congr_left; intro c _; cases c <;> rfl
/-- What a result says: a plain value; a new row; the first n elements of row k, of those that were handed over; a pointer into object k. -/
inductive RC1 where
  | val (v : Value)
  | row (el : El) (xs : List el.α)
  | al (k n : Nat)
  | ptr (k off : Nat)
inductive RC where
  | one (c : RC1)
  | agg (cs : List RC1)

def acOk1 (P : Program) (w : World) (B : Nat → Prop) (gs : List Nat) (us : List Value) (v : Value) : AC1 → Prop
  | .val x => v = x
  | .row el xs => el.Ok P ∧ rdRow w el v xs ∧ (xs.length ≠ 0 → ∀ b, v.ownBlock = some b → ¬ B b)
  | .obj k => ∃ g, gs[k]? = some g ∧ v = .pointer (some ⟨g, 0, none⟩)
  | .wr k n => ∃ A m c, us[k]? = some (.slice A m c) ∧ v = .slice A n c ∧ n ≤ m
  | .elp k i sz => ∃ ad m c, us[k]? = some (.slice (some ad) m c) ∧ v = .pointer (some (ad.add (i * sz))) ∧ i < m
  | .fn f ks => ∃ hs : List Nat, All2 (fun g k => gs[k]? = some g) hs ks ∧ v = .func (.func f) #[] (hs.map fun g => Value.pointer (some ⟨g, 0, none⟩)).toArray
def acOk (P : Program) (w : World) (B : Nat → Prop) (gs : List Nat) (us : List Value) (v : Value) : AC → Prop
  | .one c => acOk1 P w B gs us v c
  | .agg cs => ∃ vs : List Value, v = .agg vs.toArray ∧ All2 (acOk1 P w B gs us) vs cs
def ocOk (P : Program) (w : World) (B : Nat → Prop) (gs : List Nat) (v : Value) : OC → Prop
  | .val x => v = x
  | .own el xs => el.Ok P ∧ w.ownsRow 0 el.T el.sz v xs.length (el.flat xs)
  | .ro el xs => el.Ok P ∧ rdRow w el v xs ∧ (xs.length ≠ 0 → ∀ b, v.ownBlock = some b → ¬ B b)
  | .ptr k => ∃ g, gs[k]? = some g ∧ v = .pointer (some ⟨g, 0, none⟩)
  | .keep => True
  | .any => True
def rcOk1 (P : Program) (w : World) (gs : List Nat) (us : List Value) (v : Value) : RC1 → Prop
  | .val x => v = x
  | .row el xs => el.Ok P ∧ w.ownsRow 0 el.T el.sz v xs.length (el.flat xs)
  | .al k n => ∃ A m c, us[k]? = some (.slice A m c) ∧ v = .slice A n c ∧ n ≤ m
  | .ptr k off => ∃ g, gs[k]? = some g ∧ v = .pointer (some ⟨g, off, none⟩)
def rcOk (P : Program) (w : World) (gs : List Nat) (us : List Value) (v : Value) : RC → Prop
  | .one c => rcOk1 P w gs us v c
  | .agg cs => ∃ vs : List Value, v = .agg vs.toArray ∧ All2 (rcOk1 P w gs us) vs cs

/-- The values of the rows that cells, results have. -/
def ownVals : List Value → List OC → List Value
  | v :: vs, .own _ _ :: cs => v :: ownVals vs cs
  | _ :: vs, _ :: cs => ownVals vs cs
  | _, _ => []
def ownRows : List OC → List Row
  | .own el xs :: cs => ⟨true, el, xs⟩ :: ownRows cs
  | _ :: cs => ownRows cs
  | [] => []
def ownVals1 : List Value → List RC1 → List Value
  | v :: vs, .row _ _ :: cs => v :: ownVals1 vs cs
  | _ :: vs, _ :: cs => ownVals1 vs cs
  | _, _ => []
def ownRows1 : List RC1 → List Row
  | .row el xs :: cs => ⟨true, el, xs⟩ :: ownRows1 cs
  | _ :: cs => ownRows1 cs
  | [] => []
def ownValsC (v : Value) : RC → List Value
  | .one c => ownVals1 [v] [c]
  | .agg cs => ownVals1 v.cells.toList cs
def ownRowsC : RC → List Row
  | .one c => ownRows1 [c]
  | .agg cs => ownRows1 cs
def ownValsO : List (List Value) → List (List OC) → List Value
  | v :: vs, c :: cs => ownVals v c ++ ownValsO vs cs
  | _, _ => []
def ownValsR : List Value → List RC → List Value
  | v :: vs, c :: cs => ownValsC v c ++ ownValsR vs cs
  | _, _ => []

/-- Blocks that lie apart. -/
def Apart (l : List (Option Nat)) : Prop := l.Pairwise fun x y => ∀ b, x = some b → y ≠ some b
/-- The blocks of the objects that may be written. -/
def gOwn : List Nat → List HO → List (Option Nat)
  | g :: gs, h :: hs => (if h.own = true then some g else none) :: gOwn gs hs
  | _, _ => []
def blks (gs : List (Option Nat)) (us vs : List Value) : List (Option Nat) := gs ++ (us.map Value.ownBlock ++ vs.map Value.ownBlock)

/-- Three lists, side by side. -/
inductive All3 {α β γ : Type _} (r : α → β → γ → Prop) : List α → List β → List γ → Prop where
  | nil : All3 r [] [] []
  | cons {x y z xs ys zs} : r x y z → All3 r xs ys zs → All3 r (x :: xs) (y :: ys) (z :: zs)

def objOk (P : Program) (w : World) (B : Nat → Prop) (gs : List Nat) (g : Nat) (vs : List Value) (h : HO) : Prop :=
  w.heap[g]? = some (.cells vs.toArray h.T (0, 0)) ∧ All2 (ocOk P w B gs) vs h.ecs ∧ (h.own = false → ¬ B g)
def rowOwn (P : Program) (w : World) (u : Value) (row : Row) : Prop := row.own = true ∧ row.el.Ok P ∧ w.ownsRow 0 row.el.T row.el.sz u row.xs.length (row.el.flat row.xs)
/-- Cells that are as they were. -/
def Kept : List Value → List Value → List OC → Prop
  | v :: vs, v' :: vs', .keep :: cs => v' = v ∧ Kept vs vs' cs
  | _ :: vs, _ :: vs', _ :: cs => Kept vs vs' cs
  | _, _, _ => True

def packV : List Value → Value
  | [v] => v
  | vs => .tuple vs.toArray

/-- A function that is there and has a body. -/
def Entered (P : Program) (f : Nat) : Prop := ∃ fn, P.funcs[f]? = some fn ∧ (fn.name == "runtime.NumGoroutine") = false ∧ fn.body.isNone = false
/-- What a call hands back. -/
def Post (C : Cx) (w : World) (gs : List Nat) (cv : List (List Value)) (us : List Value) (L : List (Option Nat)) (ho : List HO) (hm : List Row) (res : List RC) (ho' : List HO) (hm' : List Row) (e : Ending) (w' : World) : Prop := ∃ rv cv',
      let L' := blks (gOwn gs ho') us (ownValsO cv' (ho'.map HO.ecs) ++ ownValsR rv res)
      e = .returned (packV rv) ∧ All2 (rcOk C.P w' gs us) rv res ∧ All3 (fun g vs (h : HO) => h.own = true → objOk C.P w' (fun b => some b ∈ L') gs g vs h) gs cv' ho' ∧ All3 (fun v v' (h : HO) => h.own = true → Kept v v' h.cs) cv cv' ho' ∧ All2 (rowOwn C.P w') us hm' ∧
      hm'.map (fun r => r.xs.length) = hm.map (fun r => r.xs.length) ∧ hm'.map (fun r => r.el.sz) = hm.map (fun r => r.el.sz) ∧ Apart L' ∧ (∀ b, some b ∈ L' → w.heap.size ≤ b ∨ some b ∈ L) ∧ Frm w (fun b => some b ∈ L) w' ∧ ho'.map HO.own = ho.map HO.own
/-- **The contract of function f**: at such arguments, objects and rows it returns results, objects and rows of which Q holds. -/
def OkR (C : Cx) (f : Nat) (args : List AC) (ho : List HO) (hm : List Row) (Q : List RC → List HO → List Row → Prop) : Prop :=
  Entered C.P f ∧ ∀ (w : World) (vs : List Value) (gs : List Nat) (cv : List (List Value)) (us : List Value),
    let L := blks (gOwn gs ho) us (ownValsO cv (ho.map HO.ecs))
    GOk C w (fun b => some b ∈ L) → All2 (acOk C.P w (fun b => some b ∈ L) gs us) vs args → All3 (objOk C.P w (fun b => some b ∈ L) gs) gs cv ho → All2 (rowOwn C.P w) us hm → Apart L →
    Calls C.P f vs.toArray w fun e w' => ∃ res ho' hm', Q res ho' hm' ∧ Post C w gs cv us L ho hm res ho' hm' e w'
/-- Just these. -/
def Just (res : List RC) (ho' : List HO) (hm' : List Row) (r : List RC) (h : List HO) (m : List Row) : Prop := r = res ∧ h = ho' ∧ m = hm'
/-- The contract of a function that returns just these results. -/
def Ok (C : Cx) (f : Nat) (args : List AC) (ho : List HO) (hm : List Row) (res : List RC) (ho' : List HO) (hm' : List Row) : Prop := OkR C f args ho hm (Just res ho' hm')
theorem Ok.run {C : Cx} {f : Nat} {args : List AC} {ho ho' : List HO} {hm hm' : List Row} {res : List RC} (h : Ok C f args ho hm res ho' hm') {w : World} {vs : List Value} {gs : List Nat} {cv : List (List Value)} {us : List Value} {L : List (Option Nat)} (hL : L = blks (gOwn gs ho) us (ownValsO cv (ho.map HO.ecs))) (h0 : GOk C w (fun b => some b ∈ L))
    (h1 : All2 (acOk C.P w (fun b => some b ∈ L) gs us) vs args) (h2 : All3 (objOk C.P w (fun b => some b ∈ L) gs) gs cv ho) (h3 : All2 (rowOwn C.P w) us hm) (h4 : Apart L) :
    Calls C.P f vs.toArray w fun e w' => Post C w gs cv us L ho hm res ho' hm' e w' := by
  subst hL
  refine (h.2 w vs gs cv us h0 h1 h2 h3 h4).mono ?_
  rintro e w' ⟨_, _, _, ⟨rfl, rfl, rfl⟩, hp⟩
  exact hp

end Go.Proofs.Ytjmhffbenbiieaa.Ev
