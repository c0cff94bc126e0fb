/- Part 22: at a function's beginning the machine's state is as 'entry' says. -/
import Derived.Test.YtjmhffbenbiieaaEv21
set_option linter.unusedVariables false
set_option linter.unusedSimpArgs false
namespace Go.Proofs.Ytjmhffbenbiieaa.Ev
open Go.RowKit

section
variable {C : Cx} {w0 : World} {F : Nat → Prop} {G : List Nat} {U : List Value} {nt : Nat} {ρ : Rho} {st st' : St} {a : Act} {w : World} {P : Program} {B : Nat → Prop} {gs : List Nat} {us : List Value}

theorem at_rd {n : Nat} {vs : List Value} {rows : List Row} {v : Value} {own : Bool} {el : El} {xs : List el.α} (h : At ρ st n (v :: vs) (⟨own, el, xs⟩ :: rows)) (ho : rdRow w el v xs) : scOk ρ st v (.ref n xs.length) := by
  obtain ⟨h1, h2, h3⟩ := h.2 0 v _ rfl rfl
  rw [Nat.add_zero] at h1 h2 h3
  refine ⟨h3, fun row hrow => ?_⟩
  rw [h2] at hrow; injection hrow with hrow; subst hrow
  obtain ⟨A, c, e, _⟩ := ho
  exact ⟨A, xs.length, c, by rw [h1, e], e, Nat.le_refl _⟩

theorem enCells_ok (hos : ∀ (k g : Nat), gs[k]? = some g → k < st.nx ∧ ρ.os k = g) : ∀ {vs : List Value} {cs : List OC} {n : Nat}, All2 (ocOk P w B gs) vs cs → At ρ st n (valsC vs cs) (rowsC cs) → All2 (scOk ρ st) vs (enCells n cs)
  | _, _, _, .nil, _ => .nil
  | _, _, n, .cons (y := c) h hr, ha => by
    cases c with
    | val x => exact .cons h (enCells_ok hos hr ha)
    | own el xs => exact .cons (at_ref ha h.2) (enCells_ok hos hr ha.tl)
    | ro el xs => exact .cons (at_rd ha h.2.1) (enCells_ok hos hr ha.tl)
    | ptr k =>
      obtain ⟨g, hg, e⟩ := h
      obtain ⟨h1, h2⟩ := hos k g hg
      exact .cons ⟨h1, fun ob _ => by rw [e, h2]⟩ (enCells_ok hos hr ha)
    | keep => exact .cons trivial (enCells_ok hos hr ha)
    | any => exact .cons trivial (enCells_ok hos hr ha)
theorem enObs_ok (hos : ∀ (k g : Nat), gs[k]? = some g → k < st.nx ∧ ρ.os k = g) : ∀ {l : List Nat} {cv : List (List Value)} {ho : List HO} {n : Nat}, (∀ b, some b ∈ (ownValsO cv (ho.map HO.ecs)).map Value.ownBlock → B b) → All3 (objOk P w B gs) l cv ho → At ρ st n (valsO cv ho) (rowsO ho) →
    All3 (fun g vs (ob : Ob) => w.heap[g]? = some (.cells vs.toArray ob.T (0, 0)) ∧ All2 (scOk ρ st) vs ob.cs ∧ (ob.own = false → ¬ B g)) l cv (enObs n ho)
  | _, _, _, _, _, .nil, _ => .nil
  | _, _, _, n, hB, .cons h hr, ha => by
    have hB1 : ∀ b, some b ∈ (ownVals _ _).map Value.ownBlock → B b := fun b hb => hB b (by simp only [List.map_cons, ownValsO, List.map_append, List.mem_append]; exact .inl hb)
    have hB2 : ∀ b, some b ∈ (ownValsO _ _).map Value.ownBlock → B b := fun b hb => hB b (by simp only [List.map_cons, ownValsO, List.map_append, List.mem_append]; exact .inr hb)
    have hl := (rowsC_in hB1 h.2.1).length
    exact .cons ⟨h.1, enCells_ok hos h.2.1 (ha.left hl), h.2.2⟩ (enObs_ok hos hB2 hr (ha.right hl))
theorem enA1_ok {m0 n : Nat} {hm : List Row} (hos : ∀ (k g : Nat), gs[k]? = some g → k < st.nx ∧ ρ.os k = g) (hus : At ρ st m0 us hm) (hrow : All2 (rowOwn P w) us hm) {v : Value} {c : AC1} (h : acOk1 P w B gs us v c) (ha : At ρ st n (valsA1 v c) (rowsA1 c)) : scOk ρ st v (enA1 m0 hm n c) := by
  cases c with
  | val x => exact h
  | row el xs => exact at_rd (rows := []) (vs := []) ha h.2.1
  | obj k =>
    obtain ⟨g, hg, e⟩ := h
    obtain ⟨h1, h2⟩ := hos k g hg
    exact ⟨h1, fun ob _ => by rw [e, h2]⟩
  | wr k n =>
    obtain ⟨A, m, c, hk, e, hn⟩ := h
    have hlt := (List.getElem?_eq_some_iff.1 hk).1
    have hl := hrow.length
    have hrk : hm[k]? = some (hm[k]'(by omega)) := List.getElem?_eq_getElem _
    obtain ⟨v', e1, e2⟩ := hrow.get hrk
    rw [hk] at e1; injection e1 with e1; subst e1
    obtain ⟨g1, g2, g3⟩ := hus.2 k _ _ hk hrk
    refine ⟨g3, fun row hrow => ?_⟩
    rw [g2] at hrow; injection hrow with hrow; subst hrow
    obtain ⟨A', c', e3⟩ := own_slice e2.2.2
    injection e3 with _ e4 _
    exact ⟨A, m, c, g1, e, by omega⟩
  | elp k i sz =>
    obtain ⟨ad, m, c, hk, e, hi⟩ := h
    simp only [enA1]
    split
    · rename_i row hrk
      split
      · rename_i hsz
        obtain ⟨g1, g2, g3⟩ := hus.2 k _ _ hk hrk
        obtain ⟨v', e1, e2⟩ := hrow.get hrk
        rw [hk] at e1; injection e1 with e1; subst e1
        obtain ⟨A, c', e3⟩ := own_slice e2.2.2
        injection e3 with _ e4 _
        refine ⟨g3, fun row' hrow' => ?_⟩
        rw [g2] at hrow'; injection hrow' with hrow'; subst hrow'
        exact ⟨ad, m, c, g1, by rw [e, hsz]; rfl, by omega⟩
      · trivial
    · trivial
  | fn f ks =>
    obtain ⟨hs, h1, e⟩ := h
    have key : ∀ {hs ks : List Nat}, All2 (fun g k => gs[k]? = some g) hs ks → (∀ k ∈ ks, k < st.nx) ∧ hs = ks.map ρ.os := by
      intro hs ks h
      induction h with
      | nil => exact ⟨by simp, rfl⟩
      | cons hx _ ih =>
        obtain ⟨h1, h2⟩ := hos _ _ hx
        refine ⟨fun k hk => ?_, by rw [List.map_cons, h2, ← ih.2]⟩
        rcases List.mem_cons.1 hk with rfl | hk
        · exact h1
        · exact ih.1 k hk
    obtain ⟨k1, k2⟩ := key h1
    refine ⟨k1, fun _ => ?_⟩
    rw [e, k2]; simp [List.map_map]
theorem enAs1_ok {m0 : Nat} {hm : List Row} (hos : ∀ (k g : Nat), gs[k]? = some g → k < st.nx ∧ ρ.os k = g) (hus : At ρ st m0 us hm) (hrow : All2 (rowOwn P w) us hm) : ∀ {vs : List Value} {cs : List AC1} {n : Nat}, All2 (acOk1 P w B gs us) vs cs → At ρ st n (valsAs1 vs cs) (rowsAs1 cs) → All2 (scOk ρ st) vs (enAs1 m0 hm n cs)
  | _, _, _, .nil, _ => .nil
  | _, _, n, .cons h hr, ha => by
    have hl := (rowsA1_in h).length
    exact .cons (enA1_ok hos hus hrow h (ha.left hl)) (enAs1_ok hos hus hrow hr (ha.right hl))
theorem enA_ok {m0 n : Nat} {hm : List Row} (hos : ∀ (k g : Nat), gs[k]? = some g → k < st.nx ∧ ρ.os k = g) (hus : At ρ st m0 us hm) (hrow : All2 (rowOwn P w) us hm) {v : Value} {c : AC} (h : acOk P w B gs us v c) (ha : At ρ st n (valsA v c) (rowsA c)) : pvOk ρ st v (enA m0 hm n c) := by
  cases c with
  | one c => exact enA1_ok hos hus hrow h ha
  | agg cs =>
    obtain ⟨vs, rfl, hv⟩ := h
    exact ⟨vs, rfl, enAs1_ok hos hus hrow hv (by simpa [valsA, rowsA, Value.cells] using ha)⟩
theorem enSl_ok {m0 : Nat} {hm : List Row} (hos : ∀ (k g : Nat), gs[k]? = some g → k < st.nx ∧ ρ.os k = g) (hus : At ρ st m0 us hm) (hrow : All2 (rowOwn P w) us hm) : ∀ {vs : List Value} {cs : List AC} {t n : Nat}, All2 (acOk P w B gs us) vs cs → At ρ st n (valsAs vs cs) (rowsAs cs) →
    ∀ {s : Nat} {sv : SV}, look (enSl m0 hm t n cs) s = some sv → ∃ (i : Nat) (v : Value), s = t + i ∧ vs[i]? = some v ∧ svOk ρ st v sv
  | _, _, _, _, .nil, _, s, sv, hl => by cases hl
  | _, _, t, n, .cons (x := v) h hr, ha, s, sv, hl => by
    have hlen := (rowsA_in h).length
    simp only [enSl, look] at hl
    split at hl
    · rename_i e
      injection hl with hl; subst hl
      exact ⟨0, v, by omega, rfl, enA_ok hos hus hrow h (ha.left hlen)⟩
    · obtain ⟨i, v, h1, h2, h3⟩ := enSl_ok hos hus hrow hr (ha.right hlen) hl
      exact ⟨i + 1, v, by omega, by simpa using h2, h3⟩

theorem All3.len {α β γ : Type _} {r : α → β → γ → Prop} {xs : List α} {ys : List β} {zs : List γ} (h : All3 r xs ys zs) : xs.length = ys.length ∧ xs.length = zs.length := by
  induction h with
  | nil => exact ⟨rfl, rfl⟩
  | cons _ _ ih => simp [ih.1.symm, ih.2.symm]
theorem All3.get {α β γ : Type _} {r : α → β → γ → Prop} {xs : List α} {ys : List β} {zs : List γ} (h : All3 r xs ys zs) : ∀ {i : Nat} {z : γ}, zs[i]? = some z → ∃ x y, xs[i]? = some x ∧ ys[i]? = some y ∧ r x y z := by
  induction h with
  | nil => intro i z h; simp at h
  | cons hx _ ih =>
    intro i z h
    cases i with
    | zero => simp at h; subst h; exact ⟨_, _, by simp, by simp, hx⟩
    | succ i => simp at h; simpa using ih h
theorem enObs_len : ∀ (ho : List HO) (n : Nat), (enObs n ho).length = ho.length
  | [], _ => rfl
  | _ :: hs, n => by simp [enObs, enObs_len hs]
theorem roNames_lt : ∀ {cs : List OC} {n r : Nat}, r ∈ roNames n cs → r < n + (rowsC cs).length ∧ n ≤ r
  | [], n, r, h => by cases h
  | c :: cs, n, r, h => by
    cases c with
    | own el xs => have := roNames_lt (cs := cs) (n := n + 1) (r := r) h; simp only [rowsC, List.length_cons]; omega
    | ro el xs =>
      simp only [roNames, List.mem_cons] at h
      simp only [rowsC, List.length_cons]
      rcases h with h | h
      · omega
      · have := roNames_lt h; omega
    | _ => exact roNames_lt (cs := cs) h
theorem roNamesO_lt : ∀ {ho : List HO} {n r : Nat}, r ∈ roNamesO n ho → r < n + (rowsO ho).length ∧ n ≤ r
  | [], n, r, h => by cases h
  | x :: hs, n, r, h => by
    simp only [roNamesO, List.mem_append] at h
    simp only [rowsO, List.length_append]
    rcases h with h | h
    · have := roNames_lt h; omega
    · have := roNamesO_lt h; omega

/-- **The state at the beginning.** -/
theorem entry_rel {args : List AC} {ho : List HO} {hm : List Row} {vs : List Value} {cv : List (List Value)} (hargs : All2 (acOk P w (fun b => some b ∈ blks (gOwn gs ho) us (ownValsO cv (ho.map HO.ecs))) gs us) vs args)
    (hobj : All3 (objOk P w (fun b => some b ∈ blks (gOwn gs ho) us (ownValsO cv (ho.map HO.ecs))) gs) gs cv ho) (hrow : All2 (rowOwn P w) us hm) (hap : Apart (blks (gOwn gs ho) us (ownValsO cv (ho.map HO.ecs)))) (hnt : args.length ≤ nt) :
    ∃ ρ, Rel P w (fun b => some b ∈ blks (gOwn gs ho) us (ownValsO cv (ho.map HO.ecs))) gs ((entry args ho hm).pr.map ρ.rs) nt ρ (entry args ho hm) { tmps := vs.toArray ++ Array.replicate (nt - vs.toArray.size) undef, defers := [] } w ∧ Wf (entry args ho hm) ∧
      (List.range' ho.length hm.length).map ρ.rs = us ∧ All3 (fun g vs (ob : Ob) => w.heap[g]? = some (.cells vs.toArray ob.T (0, 0)) ∧ All2 (scOk ρ (entry args ho hm)) vs ob.cs ∧ (ob.own = false → ¬ (some g ∈ blks (gOwn gs ho) us (ownValsO cv (ho.map HO.ecs))))) gs cv (enObs (ho.length + hm.length) ho) := by
  have hBL : ∀ b, some b ∈ (ownValsO cv (ho.map HO.ecs)).map Value.ownBlock → some b ∈ blks (gOwn gs ho) us (ownValsO cv (ho.map HO.ecs)) := fun b hb => by
    unfold blks; simp only [List.mem_append]; exact .inr (.inr hb)
  have hBu : ∀ b, some b ∈ us.map Value.ownBlock → some b ∈ blks (gOwn gs ho) us (ownValsO cv (ho.map HO.ecs)) := fun b hb => by
    unfold blks; simp only [List.mem_append]; exact .inr (.inl hb)
  have gget : ∀ (gs : List Nat) (ho : List HO) (i g : Nat) (h : HO), gs[i]? = some g → ho[i]? = some h → (gOwn gs ho)[i]? = some (if h.own = true then some g else none) := by
    intro gs
    induction gs with
    | nil => intro ho i g h e; simp at e
    | cons x gs ih =>
      intro ho i g h e e2
      cases ho with
      | nil => simp at e2
      | cons y ho =>
        cases i with
        | zero => simp at e e2; subst e; subst e2; rfl
        | succ i => simpa [gOwn] using ih ho i g h (by simpa using e) (by simpa using e2)
  have hBg : ∀ (i g : Nat) (h : HO), gs[i]? = some g → ho[i]? = some h → h.own = true → some g ∈ blks (gOwn gs ho) us (ownValsO cv (ho.map HO.ecs)) := fun i g h e1 e2 e3 => by
    unfold blks; simp only [List.mem_append]
    refine .inl (List.mem_of_getElem? (i := i) ?_)
    rw [gget gs ho i g h e1 e2, if_pos e3]
  generalize hBd : (fun b => some b ∈ blks (gOwn gs ho) us (ownValsO cv (ho.map HO.ecs))) = B at *
  have hB : ∀ b, B b ↔ some b ∈ blks (gOwn gs ho) us (ownValsO cv (ho.map HO.ecs)) := fun b => by rw [← hBd]
  have hko := hobj.len.2
  have hin : All2 (rowIn P w B) (us ++ (valsO cv ho ++ valsAs vs args)) (hm ++ (rowsO ho ++ rowsAs args)) := by
    refine All2.append ?_ ((rowsO_in (fun b hb => (hB b).2 (hBL b hb)) hobj).append (rowsAs_in hargs))
    have hBu' : ∀ b, some b ∈ us.map Value.ownBlock → B b := fun b hb => (hB b).2 (hBu b hb)
    clear hargs hobj hap hBd hB hBu hBL hBg
    induction hrow with
    | nil => exact .nil
    | cons hx _ ih =>
      refine .cons ⟨⟨hx.2.1, ?_⟩, fun e => by rw [hx.1] at e; cases e⟩ (ih fun b hb => hBu' b (by simp only [List.map_cons, List.mem_cons]; exact .inr hb))
      rw [if_pos hx.1]
      exact ⟨hx.2.2, fun b hb => .inr (hBu' b (by simp [hb]))⟩
  have hown : ownB (us ++ (valsO cv ho ++ valsAs vs args)) (hm ++ (rowsO ho ++ rowsAs args)) = us.map Value.ownBlock ++ (ownValsO cv (ho.map HO.ecs)).map Value.ownBlock := by
    rw [ownB_append hrow.length, ownB_append (rowsO_in (fun b hb => (hB b).2 (hBL b hb)) hobj).length, ownB_us hrow, ownB_O (fun b hb => (hB b).2 (hBL b hb)) hobj, ownB_none rowsAs_ro, List.append_nil]
  let ρ : Rho := { rs := fun r => (us ++ (valsO cv ho ++ valsAs vs args)).getD (r - ho.length) (.slice none 0 0), os := fun o => gs.getD o 0 }
  have hAt : At ρ (entry args ho hm) ho.length (us ++ (valsO cv ho ++ valsAs vs args)) (hm ++ (rowsO ho ++ rowsAs args)) := by
    refine ⟨hin.length, fun i v row h1 h2 => ⟨?_, ?_, ?_⟩⟩
    · show (us ++ (valsO cv ho ++ valsAs vs args)).getD (ho.length + i - ho.length) _ = v
      rw [Nat.add_sub_cancel_left, List.getD_eq_getElem?_getD, h1]; rfl
    · show look (numb ho.length (hm ++ (rowsO ho ++ rowsAs args))) _ = _
      rw [look_numb, if_pos (Nat.le_add_right _ _), Nat.add_sub_cancel_left, h2]
    · have := (List.getElem?_eq_some_iff.1 h2).1
      simp only [entry]; omega
  have hos : ∀ (k g : Nat), gs[k]? = some g → k < (entry args ho hm).nx ∧ ρ.os k = g := by
    intro k g h
    have := (List.getElem?_eq_some_iff.1 h).1
    refine ⟨by simp only [entry]; omega, ?_⟩
    show gs.getD k 0 = g
    rw [List.getD_eq_getElem?_getD, h]; rfl
  have hAtU := hAt.left hrow.length
  have hAtR := hAt.right hrow.length
  have hAtO := hAtR.left (rowsO_in (fun b hb => (hB b).2 (hBL b hb)) hobj).length
  have hAtA := hAtR.right (rowsO_in (fun b hb => (hB b).2 (hBL b hb)) hobj).length
  have hobs := enObs_ok hos (fun b hb => (hB b).2 (hBL b hb)) hobj hAtO
  have krow : ∀ r row, look (entry args ho hm).rw r = some row → ∃ (i : Nat) (v : Value), r = ho.length + i ∧ (us ++ (valsO cv ho ++ valsAs vs args))[i]? = some v ∧ (hm ++ (rowsO ho ++ rowsAs args))[i]? = some row ∧ ρ.rs r = v ∧ rowIn P w B v row := by
    intro r row h
    have h' : look (numb ho.length (hm ++ (rowsO ho ++ rowsAs args))) r = some row := h
    rw [look_numb] at h'
    split at h'
    · rename_i hle
      obtain ⟨v, h1, h2⟩ := hin.get h'
      have he : r = ho.length + (r - ho.length) := by omega
      refine ⟨r - ho.length, v, he, h1, h', ?_, h2⟩
      show (us ++ (valsO cv ho ++ valsAs vs args)).getD (r - ho.length) _ = v
      rw [List.getD_eq_getElem?_getD, h1]; rfl
    · cases h'
  have eown : ∀ (ho : List HO) (n i : Nat) (ob : Ob), (enObs n ho)[i]? = some ob → ∃ h, ho[i]? = some h ∧ h.own = ob.own := by
    intro ho
    induction ho with
    | nil => intro n i ob e; simp [enObs] at e
    | cons h hs ih =>
      intro n i ob e
      cases i with
      | zero => simp [enObs] at e; subst e; exact ⟨h, rfl, rfl⟩
      | succ i => simp only [enObs, List.getElem?_cons_succ] at e; simpa using ih _ i ob e
  have kob : ∀ o ob, look (entry args ho hm).ob o = some ob → ∃ (g : Nat) (us' : List Value), gs[o]? = some g ∧ ρ.os o = g ∧ w.heap[g]? = some (.cells us'.toArray ob.T (0, 0)) ∧ All2 (scOk ρ (entry args ho hm)) us' ob.cs ∧ o < ho.length ∧ (ob.own = true → (gOwn gs ho)[o]? = some (some g) ∧ B g) ∧ (ob.own = false → ¬ B g) := by
    intro o ob h
    have h' : look (numb 0 (enObs (ho.length + hm.length) ho)) o = some ob := h
    rw [look_numb, if_pos (Nat.zero_le _), Nat.sub_zero] at h'
    obtain ⟨g, us', h1, _, h3, h4, h5⟩ := hobs.get h'
    obtain ⟨h, h6, h7⟩ := eown _ _ _ _ h'
    have hlt := (List.getElem?_eq_some_iff.1 h').1
    rw [enObs_len] at hlt
    refine ⟨g, us', h1, (hos o g h1).2, h3, h4, hlt, fun e => ⟨?_, (hB g).2 (hBg o g h h1 h6 (by rw [h7, e]))⟩, h5⟩
    rw [gget gs ho o g h h1 h6, h7, e]; rfl
  have hapR : Apart (ownB (us ++ (valsO cv ho ++ valsAs vs args)) (hm ++ (rowsO ho ++ rowsAs args))) := by
    rw [hown]; unfold blks at hap; exact (List.pairwise_append.1 hap).2.1
  have hapG : Apart (gOwn gs ho) := (List.pairwise_append.1 hap).1
  have hapX : ∀ x ∈ gOwn gs ho, ∀ y ∈ us.map Value.ownBlock ++ (ownValsO cv (ho.map HO.ecs)).map Value.ownBlock, ∀ b, x = some b → y ≠ some b := (List.pairwise_append.1 hap).2.2
  have hBown : ∀ b, some b ∈ ownB (us ++ (valsO cv ho ++ valsAs vs args)) (hm ++ (rowsO ho ++ rowsAs args)) → B b := by
    intro b hb
    rw [hown] at hb
    rcases List.mem_append.1 hb with h | h
    · exact (hB b).2 (hBu b h)
    · exact (hB b).2 (hBL b h)
  have mem : ∀ {vs : List Value} {rows : List Row} {i : Nat} {v : Value} {row : Row}, vs[i]? = some v → rows[i]? = some row → row.own = true → v.ownBlock ∈ ownB vs rows := by
    intro vs
    induction vs with
    | nil => intro rows i v row h; simp at h
    | cons a vs ih =>
      intro rows i v row h1 h2 h3
      cases rows with
      | nil => simp at h2
      | cons r rows =>
        cases i with
        | zero => simp at h1 h2; subst h1; subst h2; simp [ownB, h3]
        | succ i =>
          have := ih (by simpa using h1) (by simpa using h2) h3
          simp only [ownB]; split
          · exact List.mem_cons_of_mem _ this
          · exact this
  refine ⟨ρ, ⟨⟨Frm.refl w B, fun r row e => ?_, fun o ob e => ?_, fun r row e => ?_, fun o ob e => ?_, fun r r' row row' e e' hown' hne b hb => ?_, fun o o' ob ob' e e' ow hne heq => ?_, fun r o row ob e e' ow hb => ?_⟩, ?_, rfl, fun t sv e => ?_, ?_, rfl⟩, ⟨fun o hmem => ?_, fun r hmem => ?_⟩, ?_, by simpa only [hB] using hobs⟩
  · obtain ⟨i, v, rfl, _, h2, _⟩ := krow r row e
    have := (List.getElem?_eq_some_iff.1 h2).1
    simp only [entry]; omega
  · obtain ⟨g, us', h1, h2, h3, h4, h5, h6, h7⟩ := kob o ob e
    simp only [entry]; omega
  · obtain ⟨i, v, _, _, _, h3, h4⟩ := krow r row e
    rw [h3]; exact h4.1
  · obtain ⟨g, us', h1, h2, h3, h4, h5, h6, h7⟩ := kob o ob e
    rw [h2]
    exact ⟨fun e => .inr (h6 e).2, us', h3, h4⟩
  · obtain ⟨i, v, e1, h1, h2, h3, h4⟩ := krow r row e
    obtain ⟨j, v', e1', h1', h2', h3', h4'⟩ := krow r' row' e'
    rw [h3] at hb; rw [h3']
    exact dist hin hapR hBown h1 h2 h1' h2' (fun ee => hne (by omega)) hown' b hb
  · obtain ⟨g, us', h1, h2, _, _, _, h6, h7⟩ := kob o ob e
    obtain ⟨g', us'', h1', h2', _, _, _, h6', h7'⟩ := kob o' ob' e'
    rw [h2, h2'] at heq
    subst heq
    cases q : ob.own with
    | true =>
      cases q' : ob'.own with
      | true => exact apart_get hapG (h6 q).1 (h6' q').1 hne g rfl rfl
      | false => exact h7' q' (h6 q).2
    | false =>
      cases q' : ob'.own with
      | true => exact h7 q (h6' q').2
      | false => rw [q, q'] at ow; simp at ow
  · obtain ⟨i, v, e1, h1, h2, h3, h4⟩ := krow r row e
    obtain ⟨g, us', g1, g2, _, _, _, g6, g7⟩ := kob o ob e'
    rw [h3, g2] at hb
    cases hq : row.own with
    | true =>
      have h5 := mem h1 h2 hq
      have hbq : v.ownBlock = some g := by simpa [rblk, hq] using hb
      cases q : ob.own with
      | true =>
        rw [hown, hbq] at h5
        exact hapX _ (List.mem_of_getElem? (g6 q).1) _ h5 g rfl rfl
      | false => exact g7 q (hBown g (by rw [← hbq]; exact h5))
    | false =>
      rw [hq] at ow
      have q : ob.own = true := by simpa using ow
      exact h4.2 hq g hb (g6 q).2
  · have := hargs.length
    simp; omega
  · obtain ⟨i, v, h1, h2, h3⟩ := enSl_ok hos hAtU hrow hargs hAtA (t := 0) e
    have hlt := (List.getElem?_eq_some_iff.1 h2).1
    rw [Nat.zero_add] at h1; subst h1
    have : (vs.toArray ++ Array.replicate (nt - vs.toArray.size) undef).getD t undef = v := by
      rw [Array.getD_eq_getD_getElem?, Array.getElem?_append_left (by simpa using hlt)]
      simp [h2]
    rw [this]; exact h3
  · show (List.range ho.length).map ρ.os = gs
    apply List.ext_getElem?
    intro i
    rw [List.getElem?_map]
    by_cases hlt : i < ho.length
    · rw [List.getElem?_range hlt]
      have : gs[i]? = some (gs[i]'(by omega)) := List.getElem?_eq_getElem _
      rw [this]
      simp only [Option.map_some]
      rw [(hos i _ this).2]
    · rw [List.getElem?_eq_none (by simp; omega), List.getElem?_eq_none (by omega)]; rfl
  · have : o < ho.length := by simpa [entry] using hmem
    simp only [entry]; omega
  · have : r ∈ List.range' ho.length hm.length ++ roNamesO (ho.length + hm.length) ho := hmem
    simp only [entry, List.length_append]
    rcases List.mem_append.1 this with h | h
    · have := List.mem_range'_1.1 h; omega
    · have := roNamesO_lt h; omega
  · apply List.ext_getElem?
    intro i
    rw [List.getElem?_map]
    have hl := hrow.length
    by_cases hlt : i < hm.length
    · rw [List.getElem?_range' hlt]
      have h1 : us[i]? = some (us[i]'(by omega)) := List.getElem?_eq_getElem _
      have h2 : hm[i]? = some (hm[i]'(by omega)) := List.getElem?_eq_getElem _
      rw [h1]
      simp only [Option.map_some, Nat.one_mul]
      rw [(hAtU.2 i _ _ h1 h2).1]
    · rw [List.getElem?_eq_none (by simp; omega), List.getElem?_eq_none (by omega)]; rfl
end
end Go.Proofs.Ytjmhffbenbiieaa.Ev
