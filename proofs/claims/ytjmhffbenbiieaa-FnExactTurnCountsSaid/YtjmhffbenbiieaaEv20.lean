/- Part 20: code. -/
import Derived.Test.YtjmhffbenbiieaaEv30
set_option linter.unusedVariables false
set_option linter.unusedSimpArgs false
namespace Go.Proofs.Ytjmhffbenbiieaa.Ev
open Go.RowKit

/-! ### 2. Code -/
/-- The next round. -/
structure BackG {X : Type} (I : X → Prop) (μ : X → Nat) (S : X → St) (W : St → St → Prop) (x : X) (st' : St) : Prop where
  ok : ∃ x', (I x' ∧ μ x' < μ x) ∧ W st' (S x')
theorem BackG.of {X : Type} {I : X → Prop} {μ : X → Nat} {S : X → St} {W : St → St → Prop} {x : X} {st' : St} (x' : X) (h1 : I x' ∧ μ x' < μ x) (h2 : W st' (S x')) : BackG I μ S W x st' := ⟨x', h1, h2⟩
/-- A loop: an invariant, a measure, the state at the head of each round. -/
structure LoopG (W : St → St → Prop) (body : St → (Exit → St → Prop) → Prop) (st : St) (K : Exit → St → Prop) : Prop where
  ok : ∃ (X : Type) (I : X → Prop) (μ : X → Nat) (S : X → St) (x0 : X), I x0 ∧ W st (S x0) ∧ ∀ x, I x → body (S x) fun e st' => match e with
    | .normal => BackG I μ S W x st'
    | e => K e st'
theorem LoopG.of {W : St → St → Prop} {body : St → (Exit → St → Prop) → Prop} {st : St} {K : Exit → St → Prop} (X : Type) (I : X → Prop) (μ : X → Nat) (S : X → St) (x0 : X) (h0 : I x0) (hw : W st (S x0)) (hr : ∀ x, I x → body (S x) fun e st' => match e with
    | .normal => BackG I μ S W x st'
    | e => K e st') : LoopG W body st K := ⟨X, I, μ, S, x0, h0, hw, hr⟩
def vc (C : Cx) (nt : Nat) : Code → St → (Exit → St → Prop) → Prop
  | .skip, st, K => K .normal st
  | .region _ ops draw, st, K => match draw with
    | false => vcOps C nt ops.toList ops.toList [] st (K .normal)
    | true => DrawG C nt ops st (K .normal)
  | .seq x y, st, K => vc C nt x st fun e st' => match e with
    | .normal => vc C nt y st' K
    | e => K e st'
  | .cond c x y, st, K => match (ev st c).bool? with
    | some b => Two b (vc C nt x st K) (vc C nt y st K)
    | none => False
  | .block id c, st, K => vc C nt c st fun e st' => match e with
    | .exit id' => if id' = id then K .normal st' else K (.exit id') st'
    | e => K e st'
  | .loop c, st, K => LoopG (Weak C) (fun s k => vc C nt c s k) st K
  | .exit id, st, K => K (.exit id) st
  | .ret, st, K => K .ret st
  | .label _, st, K => K .normal st
  | _, _, _ => False

theorem least (p : Nat → Prop) (h : ∃ n, p n) : ∃ n, p n ∧ ∀ m, p m → n ≤ m := by
  obtain ⟨n, hn⟩ := h
  induction n using Nat.strongRecOn with
  | _ n ih =>
    by_cases hm : ∃ m, m < n ∧ p m
    · obtain ⟨m, h1, h2⟩ := hm
      exact ih m h1 h2
    · refine ⟨n, hn, fun m h => ?_⟩
      rcases Nat.lt_or_ge m n with h1 | h1
      · exact absurd ⟨m, h1, h⟩ hm
      · exact h1

section
variable {C : Cx} {w0 : World} {F : Nat → Prop} {G : List Nat} {U : List Value} {nt : Nat} {ρ : Rho} {st st' : St} {a : Act} {w : World}

theorem wp_loopX {P : Program} {c : Code} {Q : Exit → Act → World → Prop} {X : Type} (I : X → Act → World → Prop) (μ : X → Nat) (h0 : ∃ x, I x a w)
    (round : ∀ x a w, I x a w → c.wp P (Exit.then (fun a' w' => ∃ x', I x' a' w' ∧ μ x' < μ x) Q) a w) : (Code.loop c).wp P Q a w := by
  classical
  have hl : ∀ a w, (∃ x, I x a w) → ∃ n, (∃ x, I x a w ∧ μ x = n) ∧ ∀ m, (∃ x, I x a w ∧ μ x = m) → n ≤ m := fun a w ⟨x, hx⟩ => least _ ⟨μ x, x, hx, rfl⟩
  refine wp_loop (fun a w => ∃ x, I x a w) (fun a w => if h : ∃ x, I x a w then (hl a w h).choose else 0) h0 fun a w h => ?_
  obtain ⟨⟨x, hx, e1⟩, _⟩ := (hl a w h).choose_spec
  refine wp_mono (round x a w hx) fun e a' w' hq => ?_
  cases e with
  | normal =>
    obtain ⟨x', hx', hlt⟩ := hq
    refine ⟨⟨x', hx'⟩, ?_⟩
    rw [dif_pos h, dif_pos ⟨x', hx'⟩, ← e1]
    exact Nat.lt_of_le_of_lt ((hl a' w' ⟨x', hx'⟩).choose_spec.2 _ ⟨x', hx', rfl⟩) hlt
  | _ => exact hq

theorem vc_ok (hC : C.Ok) (hG : GOk C w0 F) (hm : C.P.follows .mixedOrders = true) : ∀ (c : Code) (st : St) (K : Exit → St → Prop) (a : Act) (w : World), vc C nt c st K → RW C.P w0 F G U nt st a w → c.wp C.P (fun e a' w' => ∃ st', K e st' ∧ RW C.P w0 F G U nt st' a' w') a w := by
  intro c
  induction c with
  | skip => intro st K a w h hr; exact wp_skip ⟨st, h, hr⟩
  | region id ops draw =>
    intro st K a w h hr
    cases draw with
    | false => exact vc_region (K := K .normal) hC hG (fun st' a' w' hK hr' => ⟨st', hK, hr'⟩) h hr
    | true => exact vc_draw (K := K .normal) hC hG (fun st' a' w' hK hr' => ⟨st', hK, hr'⟩) hm h hr
  | seq x y ihx ihy =>
    intro st K a w h hr
    refine wp_seq (wp_mono (ihx st _ a w h hr) fun e a' w' hq => ?_)
    obtain ⟨st', hK, hr'⟩ := hq
    cases e with
    | normal => exact ihy st' K a' w' hK hr'
    | _ => exact ⟨st', hK, hr'⟩
  | cond c x y ihx ihy =>
    intro st K a w h hr
    simp only [vc] at h
    split at h
    · rename_i b e
      obtain ⟨hw, ρ, hrel⟩ := hr
      have := bool?_ok (ev_ok hrel c) e
      exact wp_cond_split this (fun hb => ihx st K a w (h.t hb) ⟨hw, ρ, hrel⟩) (fun hb => ihy st K a w (h.f hb) ⟨hw, ρ, hrel⟩)
    · cases h
  | block id c ih =>
    intro st K a w h hr
    refine wp_block (wp_mono (ih st _ a w h hr) fun e a' w' hq => ?_)
    obtain ⟨st', hK, hr'⟩ := hq
    cases e with
    | exit id' =>
      simp only at hK
      simp only [Exit.inBlock]
      split
      · rename_i e; rw [if_pos e] at hK; exact ⟨st', hK, hr'⟩
      · rename_i e; rw [if_neg e] at hK; exact ⟨st', hK, hr'⟩
    | _ => exact ⟨st', hK, hr'⟩
  | loop c ih =>
    intro st K a w h hr
    obtain ⟨X, I, μ, S, x0, h0, hW, hround⟩ := h.ok
    refine wp_loopX (fun x a w => I x ∧ RW C.P w0 F G U nt (S x) a w) μ ⟨x0, h0, hW.run hC hr⟩ fun x a w hx => ?_
    refine wp_mono (ih (S x) _ a w (hround x hx.1) hx.2) fun e a' w' hq => ?_
    obtain ⟨st', hK, hr'⟩ := hq
    cases e with
    | normal =>
      obtain ⟨x', ⟨h1, h2⟩, h3⟩ := hK.ok
      exact ⟨x', ⟨h1, h3.run hC hr'⟩, h2⟩
    | _ => exact ⟨st', hK, hr'⟩
  | exit id => intro st K a w h hr; exact wp_exit ⟨st, h, hr⟩
  | ret => intro st K a w h hr; exact wp_ret ⟨st, h, hr⟩
  | label l => intro st K a w h hr; exact wp_label ⟨st, h, hr⟩
  | _ => intro st K a w h hr; cases h
end
end Go.Proofs.Ytjmhffbenbiieaa.Ev
