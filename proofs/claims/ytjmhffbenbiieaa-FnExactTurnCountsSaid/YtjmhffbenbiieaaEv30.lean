/- Part 30: regions in any order, every order looked at by itself; behind them the states are put together again. -/
import Derived.Test.YtjmhffbenbiieaaEv29
set_option linter.unusedVariables false
set_option linter.unusedSimpArgs false
namespace Go.Proofs.Ytjmhffbenbiieaa.Ev
open Go.RowKit

def unL (n : Nat) (L : List Nat) : List Nat := (List.range n).filter fun i => !memB L i
def readyL (ops : Array Oper) (L : List Nat) : List Nat := (unL ops.size L).filter fun i => subB (afterOf ops.toList i) L
def freeL (ops : Array Oper) (L : List Nat) : List Nat → Option Nat
  | [] => none
  | i :: r => match floatB ops (unL ops.size L) i with
    | true => some i
    | false => freeL ops L r
def oneA (C : Cx) (nt : Nat) (ops : List Oper) (i : Nat) (kn : List Nat) (st : St) (K : List Nat → St → Prop) : Prop := match ops[i]? with
  | none => False
  | some o => gP ops o kn st fun b kn st => match b with
    | true => opP C nt st o (K kn)
    | false => if dOk nt o.dst = true then K kn (st.putD o.dst (.pv (.one (.val undef)))) else False
def eachA : List Nat → (Nat → Prop) → Prop
  | [], _ => True
  | [i], P => P i
  | i :: r, P => P i ∧ eachA r P
def vcAll (C : Cx) (nt : Nat) (ops : Array Oper) (K : St → Prop) : Nat → List Nat → List Nat → St → Prop
  | 0, L, kn, st => match readyL ops L with
    | [] => K st
    | _ => False
  | n + 1, L, kn, st => match readyL ops L with
    | [] => K st
    | r => match freeL ops L r with
      | some i => oneA C nt ops.toList i kn st fun kn st => vcAll C nt ops K n (i :: L) kn st
      | none => eachA r fun i => oneA C nt ops.toList i kn st fun kn st => vcAll C nt ops K n (i :: L) kn st
structure MergeG (C : Cx) (nt : Nat) (ops : Array Oper) (st : St) (K : St → Prop) : Prop where
  ok : ∃ (X : Type) (I : X → Prop) (S : X → St), Region.noSelect ops = true ∧ vcAll C nt ops (fun st' => ∃ x, I x ∧ Weak C st' (S x)) ops.size [] [] st ∧ ∀ x, I x → K (S x)
theorem MergeG.of {C : Cx} {nt : Nat} {ops : Array Oper} {st : St} {K : St → Prop} (X : Type) (I : X → Prop) (S : X → St) (h : Region.noSelect ops = true) (h1 : vcAll C nt ops (fun st' => ∃ x, I x ∧ Weak C st' (S x)) ops.size [] [] st) (h2 : ∀ x, I x → K (S x)) : MergeG C nt ops st K := ⟨X, I, S, h, h1, h2⟩

section
variable {C : Cx} {w0 : World} {F : Nat → Prop} {G : List Nat} {U : List Value} {nt : Nat} {ρ : Rho} {st st' : St} {a : Act} {w : World} {ops : Array Oper}
theorem unL_mem {n : Nat} {L : List Nat} {i : Nat} : i ∈ unL n L ↔ i < n ∧ i ∉ L := by
  simp only [unL, List.mem_filter, List.mem_range, Bool.not_eq_true']
  constructor
  · rintro ⟨h1, h2⟩; exact ⟨h1, memB_ok h2⟩
  · rintro ⟨h1, h2⟩
    refine ⟨h1, ?_⟩
    cases h : memB L i with
    | false => rfl
    | true => exact absurd (memB_iff.1 h) h2
theorem readyL_mem {L : List Nat} {listed : Array Bool} (hs : listed.size = ops.size) (hL : ∀ j, listed.getD j false = true ↔ j ∈ L) {i : Nat} : i ∈ Region.ready .any ops listed ↔ i ∈ readyL ops L := by
  rw [mem_ready, readyL, List.mem_filter, unL_mem]
  have haft : ∀ {o : Oper}, ops[i]? = some o → ∀ j, j ∈ afterOf ops.toList i ↔ ∃ e ∈ o.after, Region.binds .any e = true ∧ e.on = j := by
    intro o ho j
    simp only [afterOf, Array.getElem?_toList, ho, afterL_mem, Array.mem_toList_iff]
  constructor
  · rintro ⟨h1, o, ho, h2⟩
    have hi : i < ops.size := (Array.getElem?_eq_some_iff.1 ho).1
    rw [getD_tf (by omega)] at h1
    refine ⟨⟨hi, fun hm => ?_⟩, ?_⟩
    · rw [(hL i).2 hm] at h1; cases h1
    · simp only [subB, List.all_eq_true]
      intro j hj
      obtain ⟨e, e1, e2, rfl⟩ := (haft ho j).1 hj
      exact memB_iff.2 ((hL _).1 (h2 e e1 e2))
  · rintro ⟨⟨hi, h1⟩, h2⟩
    refine ⟨?_, ops[i], Array.getElem?_eq_getElem hi, fun e e1 e2 => ?_⟩
    · rw [getD_tf (by omega)]
      cases h : listed.getD i false with
      | false => rfl
      | true => exact absurd ((hL i).1 h) h1
    · simp only [subB, List.all_eq_true] at h2
      exact (hL _).2 (memB_iff.1 (h2 _ ((haft (Array.getElem?_eq_getElem hi) _).2 ⟨e, e1, e2, rfl⟩)))
theorem freeL_mem {L : List Nat} : ∀ {r : List Nat} {i : Nat}, freeL ops L r = some i → i ∈ r ∧ floatB ops (unL ops.size L) i = true
  | [], i, h => by cases h
  | x :: r, i, h => by
    simp only [freeL] at h
    split at h
    · rename_i h1; injection h with h; subst h; exact ⟨by simp, h1⟩
    · obtain ⟨h1, h2⟩ := freeL_mem h; exact ⟨by simp [h1], h2⟩
theorem eachA_mem : ∀ {r : List Nat} {P : Nat → Prop}, eachA r P → ∀ i ∈ r, P i
  | [], _, _, i, hi => by cases hi
  | [x], P, h, i, hi => by simp only [List.mem_singleton] at hi; subst hi; exact h
  | x :: y :: r, P, h, i, hi => by
    rcases List.mem_cons.1 hi with rfl | hi
    · exact h.1
    · exact eachA_mem (r := y :: r) h.2 i hi
theorem oneA_ok (hC : C.Ok) (hG : GOk C w0 F) {i : Nat} {kn : List Nat} {K : List Nat → St → Prop} {Q : Exit → Act → World → Prop} (h : oneA C nt ops.toList i kn st K) (hr : RW C.P w0 F G U nt st a w) : wpOp C.P ops Q i (fun a' w' => ∃ kn' st', K kn' st' ∧ RW C.P w0 F G U nt st' a' w') a w := by
  unfold oneA at h
  split at h
  · cases h
  · rename_i o ho
    rw [Array.getElem?_toList] at ho
    obtain ⟨hw, ρ, hrel⟩ := hr
    obtain ⟨b, kn', st', hb, hK, hw', h', _⟩ := gP_ok hw h hrel
    unfold Go.wpOp
    simp only [ho, hb]
    cases b with
    | true =>
      simp only [if_true]
      refine .inl (Oper.wp_mono (fun a' w' hh => ?_) (opP_ok hC hG h' hw' hK))
      obtain ⟨st2, hK2, hr2⟩ := hh
      exact ⟨kn', st2, hK2, hr2⟩
    | false =>
      simp only [Bool.false_eq_true, if_false]
      simp only at hK
      split at hK
      · rename_i hd
        exact ⟨kn', _, hK, hw'.putD _ _, ρ, h'.slot o.dst undef _ rfl hd⟩
      · cases hK
theorem all_any (hC : C.Ok) (hG : GOk C w0 F) (hns : Region.noSelect ops = true) {K : St → Prop} : ∀ (fuel : Nat) (L kn : List Nat) (st : St) (a : Act) (w : World) (listed : Array Bool), listed.size = ops.size → (∀ j, listed.getD j false = true ↔ j ∈ L) → vcAll C nt ops K fuel L kn st → RW C.P w0 F G U nt st a w →
    wpAny C.P .any ops (fun e a w => e = .normal ∧ ∃ st', K st' ∧ RW C.P w0 F G U nt st' a w) fuel listed a w
  | 0, L, kn, st, a, w, listed, hs, hL, hv, hr => by
    simp only [vcAll] at hv
    split at hv
    · rename_i e
      refine wpAny_done (List.eq_nil_iff_forall_not_mem.2 fun i hi => ?_) ⟨rfl, st, hv, hr⟩ 0
      have := (readyL_mem hs hL).1 hi
      rw [e] at this; cases this
    · cases hv
  | n + 1, L, kn, st, a, w, listed, hs, hL, hv, hr => by
    have next : ∀ i, i ∈ Region.ready .any ops listed → ∀ kn' st' a' w', vcAll C nt ops K n (i :: L) kn' st' → RW C.P w0 F G U nt st' a' w' → wpAny C.P .any ops (fun e a w => e = .normal ∧ ∃ st', K st' ∧ RW C.P w0 F G U nt st' a w) n (listed.setIfInBounds i true) a' w' := by
      intro i hi kn' st' a' w' hv' hr'
      obtain ⟨_, o, ho, _⟩ := mem_ready.1 hi
      have hlt := (Array.getElem?_eq_some_iff.1 ho).1
      refine all_any hC hG hns n (i :: L) kn' st' a' w' _ (by simp [hs]) (fun j => ?_) hv' hr'
      rw [set_getD (by omega), hL j, List.mem_cons]
      exact Or.comm
    simp only [vcAll] at hv
    split at hv
    · rename_i e
      refine wpAny_done (List.eq_nil_iff_forall_not_mem.2 fun i hi => ?_) ⟨rfl, st, hv, hr⟩ _
      have := (readyL_mem hs hL).1 hi
      rw [e] at this; cases this
    · rename_i e
      split at hv
      · rename_i i hf
        obtain ⟨h1, h2⟩ := freeL_mem hf
        have hi := (readyL_mem hs hL).2 h1
        obtain ⟨_, o, ho, _⟩ := mem_ready.1 hi
        have hlt := (Array.getElem?_eq_some_iff.1 ho).1
        unfold floatB at h2
        rw [ho] at h2
        simp only [Bool.and_eq_true] at h2
        have hcp := h2.1
        have hgn : o.guard = none := by
          simp only [copyB, Bool.and_eq_true, Option.isNone_iff_eq_none] at hcp; exact hcp.1
        have hstep := oneA_ok (Q := fun _ _ _ => False) hC hG hv hr
        unfold Go.wpOp at hstep
        rw [ho] at hstep
        simp only [Region.wanted, hgn, if_true] at hstep
        have hwp : o.wp C.P a w (fun a' w' => ∃ kn' st', vcAll C nt ops K n (i :: L) kn' st' ∧ RW C.P w0 F G U nt st' a' w') fun _ _ _ => False := by
          rcases hstep with h | ⟨_, h⟩
          · exact h
          · obtain ⟨_, _, h⟩ := h; exact h.elim
        obtain ⟨v, hy, kn', st', hv', hr'⟩ := copy_yields (ops := ops) hcp hwp
        refine wpAny_first ho (Region.noSelect_spec hns) (fun c a w h => by cases h.1) _ listed a w (fun j oj hj hne hun hno => ?_) hi hy (next i hi kn' st' _ _ hv' hr')
        have hjs : j < ops.size := (Array.getElem?_eq_some_iff.1 hj).1
        rw [getD_tf (by omega)] at hun
        have hjm : j ∈ unL ops.size L := unL_mem.2 ⟨hjs, fun hm => by rw [(hL j).2 hm] at hun; cases hun⟩
        have h3 := List.all_eq_true.1 h2.2 j hjm
        simp only [Bool.or_eq_true, hj] at h3
        rcases h3 with (h3 | h3) | h3
        · exact absurd (Nat.eq_of_beq_eq_true h3) hne
        · have : ∃ e ∈ oj.after, Region.binds .any e = true ∧ e.on = i := by
            have := memB_iff.1 h3
            simpa only [afterOf, Array.getElem?_toList, hj, afterL_mem, Array.mem_toList_iff] using this
          obtain ⟨x, x1, x2, x3⟩ := this
          exact absurd x3 (hno x x1 x2)
        · exact h3
      · rename_i hf
        refine ⟨fun h0 => ?_, fun i hi => ?_⟩
        · exfalso
          apply e
          refine List.eq_nil_iff_forall_not_mem.2 fun i hi => ?_
          have := (readyL_mem hs hL).2 hi
          rw [h0] at this; cases this
        · refine wpOp_mono (fun a' w' hh => ?_) (oneA_ok hC hG (eachA_mem hv i ((readyL_mem hs hL).1 hi)) hr)
          obtain ⟨kn', st', hv', hr'⟩ := hh
          exact next i hi kn' st' a' w' hv' hr'
theorem vc_regionM (hC : C.Ok) (hG : GOk C w0 F) {id : Nat} {K : St → Prop} {Q : Exit → Act → World → Prop} (hQ : ∀ st' a' w', K st' → RW C.P w0 F G U nt st' a' w' → Q .normal a' w') (hm : C.P.follows .mixedOrders = true)
    (hv : MergeG C nt ops st K) (hr : RW C.P w0 F G U nt st a w) : (Code.region id ops true).wp C.P Q a w := by
  obtain ⟨X, I, S, hns, hv, hK⟩ := hv.ok
  obtain ⟨hw, ρ, h⟩ := hr
  have hdr : Rel C.P w0 F G U nt ρ st a { w with drawn := w.drawn + 1 } := ⟨h.mem.drawn (w.drawn + 1), h.size, h.defers, h.slots, h.pins, h.pinr⟩
  have hrep : ∀ j, (Array.replicate ops.size false).getD j false = false := fun j => by
    simp only [Array.getD_eq_getD_getElem?, Array.getElem?_replicate]; split <;> rfl
  refine wp_mono (Q := fun e a' w' => e = .normal ∧ ∃ st', (∃ x, I x ∧ Weak C st' (S x)) ∧ RW C.P w0 F G U nt st' a' w') ?_ (fun e a' w' hh => ?_)
  · exact wp_region_any hm (all_any hC hG hns ops.size [] [] st a _ _ (by simp) (fun j => by simp [hrep]) hv ⟨hw, ρ, hdr⟩)
  · obtain ⟨rfl, st', ⟨x, hx, hW⟩, hr'⟩ := hh
    exact hQ _ _ _ (hK x hx) (hW.run hC hr')

/-- A region in any order: its operations only read; they read and make new things; every order by itself. -/
inductive DrawG (C : Cx) (nt : Nat) (ops : Array Oper) (st : St) (K : St → Prop) : Prop where
  | q (h : Region.lexB .any ops = true) (k : vcQ C nt ops.toList ops.toList [] st K)
  | d (h : RegD C nt ops st K)
  | m (h : MergeG C nt ops st K)
theorem vc_draw (hC : C.Ok) (hG : GOk C w0 F) {id : Nat} {K : St → Prop} {Q : Exit → Act → World → Prop} (hQ : ∀ st' a' w', K st' → RW C.P w0 F G U nt st' a' w' → Q .normal a' w') (hm : C.P.follows .mixedOrders = true)
    (hv : DrawG C nt ops st K) (hr : RW C.P w0 F G U nt st a w) : (Code.region id ops true).wp C.P Q a w := by
  cases hv with
  | q h k => exact vc_regionQ hC hG hQ hm h k hr
  | d h => exact vc_regionD hC hG hQ hm h hr
  | m h => exact vc_regionM hC hG hQ hm h hr
end
end Go.Proofs.Ytjmhffbenbiieaa.Ev
