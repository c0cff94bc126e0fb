/- Part 24: an argument that is a slice of flat elements, as a row that is read; a contract that hands nothing over, as a row wants it. -/
import Derived.Test.YtjmhffbenbiieaaEv23
import Derived.Deep.Slices
import Derived.Below
set_option linter.unusedVariables false
set_option linter.unusedSimpArgs false
namespace Go.Proofs.Ytjmhffbenbiieaa.Ev
open Go.RowKit

theorem flat_at {P : Program} {e : El} (h : e.Ok P) (xs : List e.α) {k : Nat} {u : Value} (hu : (e.flat xs)[k]? = some u) : ∃ i j, k = i * e.sz + j ∧ i < xs.length ∧ j < e.sz ∧ (e.enc (xs.getD i e.zero))[j]? = some u := by
  have hk := (List.getElem?_eq_some_iff.1 hu).1
  rw [flat_length h] at hk
  have hp := h.pos
  have hi : k / e.sz < xs.length := by rw [Nat.div_lt_iff_lt_mul hp]; exact hk
  have hj : k % e.sz < e.sz := Nat.mod_lt _ hp
  have hd : k / e.sz * e.sz + k % e.sz = k := by rw [Nat.mul_comm]; exact Nat.div_add_mod k e.sz
  refine ⟨k / e.sz, k % e.sz, hd.symm, hi, hj, ?_⟩
  rw [← flat_get h xs _ _ hi hj, hd]; exact hu

theorem choose_list {α : Type} {p : Nat → α → Prop} (z : α) : ∀ {n : Nat}, (∀ i, i < n → ∃ x, p i x) → ∃ xs : List α, xs.length = n ∧ ∀ i, i < n → p i (xs.getD i z)
  | 0, _ => ⟨[], rfl, fun i hi => absurd hi (Nat.not_lt_zero _)⟩
  | l + 1, h => by
    obtain ⟨xs, h1, h2⟩ := choose_list z (n := l) fun i hi => h i (by omega)
    obtain ⟨x, h3⟩ := h l (by omega)
    refine ⟨xs ++ [x], by simp [h1], fun i hi => ?_⟩
    by_cases hil : i < l
    · have : (xs ++ [x]).getD i z = xs.getD i z := by
        rw [List.getD_eq_getElem?_getD, List.getD_eq_getElem?_getD, List.getElem?_append_left (by omega)]
      rw [this]; exact h2 i hil
    · have hil' : i = l := by omega
      have : (xs ++ [x]).getD i z = x := by
        rw [List.getD_eq_getElem?_getD, List.getElem?_append_right (by omega), hil', h1]; simp
      rw [this, hil']; exact h3
theorem open_rd {H : Type} {enc : TypeId × Value → H} {P : Program} {w : World} {base : Nat} {spare : Nat → Bool} {held : Bool} {el : El} (hel : el.Ok P) {t : TypeId} (ht : P.underlying t = some (.slice el.T)) (hc : P.cellsOf el.T = el.sz) {Q : el.α → Prop}
    (each : ∀ n cs y, DataW.trod enc P w base spare held n el.T cs = some y → ∃ x, cs = el.enc x ∧ Q x) {fuel : Nat} {cs : List Value} {x : DataW H × List MemPlace} (h : DataW.trod enc P w base spare held fuel t cs = some x) :
    ∃ v xs, cs = [v] ∧ rdRow w el v xs ∧ (∀ x ∈ xs, Q x) ∧ xs.length ≤ Go.maxLen := by
  rcases Go.Deep.open_slice ht h with ⟨rfl, _⟩ | ⟨a, len, cap, m, n, D, Pl, rfl, _, hl, hm, hmm, _, hx⟩
  · exact ⟨_, [], rfl, ⟨none, 0, rfl, Nat.le_refl _, Nat.zero_le _, fun h => absurd h (Nat.lt_irrefl _)⟩, by simp, Nat.zero_le _⟩
  · have hlm : len ≤ m := by rw [hmm]; split <;> omega
    have hp := hel.pos
    have he : ∀ i, i < len → ∃ x : el.α, (∀ j, j < el.sz → w.cell? (a.add (i * el.sz + j)) = (el.enc x)[j]?) ∧ Q x := by
      intro i hi
      obtain ⟨cs', h1, h2⟩ := hx i (by omega)
      obtain ⟨x, rfl, hq⟩ := each _ _ _ h2
      obtain ⟨_, _, hcell⟩ := World.cells?_some h1
      refine ⟨x, fun j hj => ?_, hq⟩
      have := hcell j (by rw [hc]; exact hj)
      rw [add_add, hc] at this
      exact this
    have := choose_list el.zero he
    obtain ⟨xs, h1, h2⟩ := this
    refine ⟨_, xs, rfl, ⟨some a, cap, by rw [h1], by omega, hm, fun _ => ⟨a, rfl, fun k u hu => ?_⟩⟩, fun x hx => ?_, by omega⟩
    · obtain ⟨i, j, rfl, hi, hj, hu'⟩ := flat_at hel xs hu
      rw [(h2 i (by omega)).1 j hj]; exact hu'
    · obtain ⟨i, hi, rfl⟩ := List.getElem_of_mem hx
      have := (h2 i (by omega)).2
      rw [List.getD_eq_getElem?_getD, List.getElem?_eq_getElem hi] at this
      exact this

/-- A contract that hands nothing over. -/
theorem Ok.calls {C : Cx} {f : Nat} {args : List AC} {x : Value} (h : Ok C f args [] [] [.one (.val x)] [] []) (w : World) (vs : List Value) (hl : C.laid w) (hv : All2 (acOk C.P w (fun _ => False) [] []) vs args) :
    Calls C.P f vs.toArray w fun e w' => e = .returned x ∧ Below w.heap.size w w' := by
  have := h.run (w := w) (vs := vs) (gs := []) (cv := []) (us := []) (L := []) rfl ⟨hl, by simp⟩ (by simpa using hv) .nil .nil (by simp [Apart])
  refine this.mono fun e w' hpost => ?_
  obtain ⟨rv, cv', rfl, h1, h2, h3, h4, h5, h6, h7, h8, h9, _⟩ := hpost
  cases h1 with
  | cons hx hr =>
    cases hr
    exact ⟨by simp only [packV]; rw [show _ = x from hx], ⟨h9.os, h9.tape, h9.output, h9.size, fun k hk => h9.block k hk (by simp)⟩⟩
theorem ac_row {P : Program} {w : World} {el : El} (hel : el.Ok P) {v : Value} {xs : List el.α} (h : rdRow w el v xs) : acOk P w (fun _ => False) [] [] v (.one (.row el xs)) := ⟨hel, h, fun _ _ _ h => h⟩
end Go.Proofs.Ytjmhffbenbiieaa.Ev
