/- The pure part of FnEven: for every byte string the printed law returns true: even arrivals of the program and of the reference agree, are valid and are as many as asked. -/
import Derived.Test.YthkdbflhneabbaaEx3
namespace Go.Proofs.Ythkdbflhneabbaa.Pure
open Go.RowKit Go.Proofs.Ythkdbflhneabbaa.PFnEven Go.Proofs.YthkdbflhneabbaaW.PrintWords Go.Proofs.YthkdbflhneabbaaW.PrintLast

theorem and255 (x : Int) : 0 ≤ Go.bits .and .i64 x 255 ∧ Go.bits .and .i64 x 255 ≤ 255 := by
  have h : Go.bits .and .i64 x 255 = wrap64 ((BitVec.ofInt 64 x &&& 255#64).toNat : Int) := by rw [← i64_w]; rfl
  have hle : (BitVec.ofInt 64 x &&& 255#64).toNat ≤ 255 := by rw [BitVec.toNat_and]; exact Nat.and_le_right
  rw [h]
  generalize (BitVec.ofInt 64 x &&& 255#64).toNat = m at *
  unfold wrap64
  omega

theorem w64 {x : Int} (h0 : -9223372036854775808 ≤ x) (h1 : x ≤ 9223372036854775807) : wrap64 x = x := by unfold wrap64; omega

/-- The cursor is within its text. -/
theorem byte_ok (b : List Int) (i h : Int) (hb : (b.length : Int) ≤ 1048576) (h0 : 0 ≤ i) (h1 : i ≤ b.length) : ∃ r i' h', spec_l01Byte.f b i h = some (r, i', h') ∧ 0 ≤ r ∧ r ≤ 255 ∧ 0 ≤ i' ∧ i' ≤ b.length := by
  unfold spec_l01Byte.f
  by_cases c : i < (b.length : Int)
  · rw [if_pos c, if_pos h0, w64 (x := i + 1) (by omega) (by omega)]
    refine ⟨_, _, _, rfl, (and255 _).1, (and255 _).2, by omega, by omega⟩
  · rw [if_neg c]
    exact ⟨_, _, _, rfl, (and255 _).1, (and255 _).2, h0, h1⟩

theorem below_ok (b : List Int) (i h n : Int) (hb : (b.length : Int) ≤ 1048576) (h0 : 0 ≤ i) (h1 : i ≤ b.length) (hn : n ≤ 256) : ∃ r i' h', spec_l01Below.f b i h n = some (r, i', h') ∧ 0 ≤ r ∧ (0 < n → r < n) ∧ 0 ≤ i' ∧ i' ≤ b.length := by
  unfold spec_l01Below.f
  by_cases c : n ≤ 0
  · rw [if_pos c]; exact ⟨_, _, _, rfl, by omega, by omega, h0, h1⟩
  · rw [if_neg c, if_pos hn]
    obtain ⟨r, i', h', e, g0, g1, g2, g3⟩ := byte_ok b i h hb h0 h1
    rw [e]
    simp only [Option.bind_some]
    rw [if_neg (by omega)]
    exact ⟨_, _, _, rfl, Int.tmod_nonneg _ g0, fun _ => Int.tmod_lt_of_pos _ (by omega), g2, g3⟩

theorem pick_ok (b : List Int) (i h : Int) (l : List Int) (hb : (b.length : Int) ≤ 1048576) (h0 : 0 ≤ i) (h1 : i ≤ b.length) (hl : 0 < l.length) (hn : l.length ≤ 256) : ∃ r i' h', spec_l01PickInt.f b i h l = some (r, i', h') ∧ 0 ≤ i' ∧ i' ≤ b.length := by
  unfold spec_l01PickInt.f
  obtain ⟨r, i', h', e, g0, g1, g2, g3⟩ := below_ok b i h l.length hb h0 h1 (by omega)
  rw [e]
  simp only [Option.bind_some]
  rw [if_pos g0, if_pos (g1 (by omega))]
  exact ⟨_, _, _, rfl, g2, g3⟩

theorem new_ok (b : List Int) (hb : (b.length : Int) ≤ 1048576) : ∀ (d : Nat) (k : Nat) (h i : Int), 0 ≤ i → i ≤ b.length → (b.length : Int) - i = d → d < k → ∃ h', spec_l01New.l0 k b h i = some (b, 0, h') := by
  intro d
  induction d with
  | zero =>
    intro k h i h0 h1 hd hk
    obtain ⟨k, rfl⟩ : ∃ m, k = m + 1 := ⟨k - 1, by omega⟩
    exact ⟨h, by simp only [spec_l01New.l0]; rw [if_neg (by omega)]⟩
  | succ d ih =>
    intro k h i h0 h1 hd hk
    obtain ⟨k, rfl⟩ : ∃ m, k = m + 1 := ⟨k - 1, by omega⟩
    simp only [spec_l01New.l0]
    rw [if_pos (by omega)]
    by_cases c : i < 4000
    · rw [if_pos c, if_pos h0, w64 (x := i + 1) (by omega) (by omega)]
      exact ih k _ (i + 1) (by omega) (by omega) (by omega) (by omega)
    · rw [if_neg c]; exact ⟨_, rfl⟩

theorem draw_ok (b : List Int) (hb : (b.length : Int) ≤ 1048576) (k : Nat) (hk : b.length < k) : ∃ n g, spec_DrawEvenArrivals.f k b = some (n, g) := by
  unfold spec_DrawEvenArrivals.f spec_l01New.f
  obtain ⟨h, e⟩ := new_ok b hb b.length k (wrap64 (722722 + (b.length : Int))) 0 (by omega) (by omega) (by omega) hk
  rw [e]
  simp only [Option.bind_some]
  obtain ⟨r, i', h', e, g0, g1, g2, g3⟩ := below_ok b 0 h 24 hb (by omega) (by omega) (by omega)
  rw [e]
  simp only [Option.bind_some]
  obtain ⟨r, i', h', e, g0, g1⟩ := pick_ok b i' h' [0, 1, 7, 52, 53, 1000, 1001, (-1)] hb g2 g3 (by decide) (by decide)
  rw [e]
  simp only [Option.bind_some]
  exact ⟨_, _, rfl⟩

/-- What both ArrivalsOk ask of the elements from i on. -/
def okFrom : Nat → List Int → Nat → Bool
  | 0, _, _ => true
  | d + 1, l, i => (decide (0 ≤ rd l i) && decide (rd l i ≤ 1000)) && !(decide (0 < i) && decide (rd l (i - 1 : Nat) > rd l i)) && okFrom d l (i + 1)

theorem specIn (a b c : Int) : spec_l01In.f a b c = some (decide (b ≤ a) && decide (a ≤ c)) := by
  unfold spec_l01In.f; split <;> simp_all; omega
theorem implIn (a b c : Int) : impl_in.f a b c = some (decide (b ≤ a) && decide (a ≤ c)) := by
  unfold impl_in.f; split <;> simp_all; omega

theorem specArr (l : List Int) (hl : l.length ≤ 20) : ∀ (d k : Nat) (i : Nat), i + d = l.length → d < k → spec_ArrivalsOk.l0 k l i = some (okFrom d l i) := by
  intro d
  induction d with
  | zero =>
    intro k i hd hk
    obtain ⟨k, rfl⟩ : ∃ m, k = m + 1 := ⟨k - 1, by omega⟩
    simp only [spec_ArrivalsOk.l0]; rw [if_neg (by omega)]; rfl
  | succ d ih =>
    intro k i hd hk
    obtain ⟨k, rfl⟩ : ∃ m, k = m + 1 := ⟨k - 1, by omega⟩
    have hn : ((i + 1 : Nat) : Int) = (i : Int) + 1 := by omega
    simp only [spec_ArrivalsOk.l0]
    rw [if_pos (by omega), if_pos (by omega), specIn, w64 (x := (i : Int) + 1) (by omega) (by omega), ← hn, ih k (i + 1) (by omega) (by omega)]
    simp only [Option.bind_some, okFrom]
    by_cases c : (decide (0 ≤ rd l i) && decide (rd l i ≤ 1000)) = true
    · rw [if_pos c, c]
      by_cases c0 : i = 0
      · subst c0
        rw [if_neg (by omega)]; simp
      · have hm : ((i - 1 : Nat) : Int) = (i : Int) - 1 := by omega
        rw [if_pos (by omega), w64 (x := (i : Int) - 1) (by omega) (by omega), if_pos (by omega), if_pos (by omega), ← hm]
        by_cases c2 : rd l (i - 1 : Nat) > rd l i
        · rw [if_pos c2]; simp [c2]; omega
        · rw [if_neg c2]; simp [c2]
    · rw [if_neg c, Bool.eq_false_iff.mpr c]; rfl

theorem implArr (l : List Int) (hl : l.length ≤ 20) : ∀ (d k : Nat) (i : Nat), i + d = l.length → d < k → impl_ArrivalsOk.l0 k l l l.length i = some (okFrom d l i) := by
  intro d
  induction d with
  | zero =>
    intro k i hd hk
    obtain ⟨k, rfl⟩ : ∃ m, k = m + 1 := ⟨k - 1, by omega⟩
    simp only [impl_ArrivalsOk.l0]; rw [if_neg (by omega)]; simp [okFrom]; omega
  | succ d ih =>
    intro k i hd hk
    obtain ⟨k, rfl⟩ : ∃ m, k = m + 1 := ⟨k - 1, by omega⟩
    have hn : ((i + 1 : Nat) : Int) = (i : Int) + 1 := by omega
    simp only [impl_ArrivalsOk.l0]
    rw [if_pos (by omega), if_pos (by omega), if_pos (by omega), implIn, w64 (x := (i : Int) + 1) (by omega) (by omega), ← hn, ih k (i + 1) (by omega) (by omega)]
    simp only [Option.bind_some, okFrom]
    by_cases c : (decide (0 ≤ rd l i) && decide (rd l i ≤ 1000)) = true
    · rw [if_pos c, c]
      by_cases c0 : i = 0
      · subst c0
        rw [if_neg (by omega)]; simp
      · have hm : ((i - 1 : Nat) : Int) = (i : Int) - 1 := by omega
        rw [if_pos (by omega), w64 (x := (i : Int) - 1) (by omega) (by omega), if_pos (by omega), if_pos (by omega), ← hm]
        by_cases c2 : rd l (i - 1 : Nat) > rd l i
        · rw [if_pos c2]; simp [c2]; omega
        · rw [if_neg c2]; simp [c2]
    · rw [if_neg c, Bool.eq_false_iff.mpr c]; rfl

/-- The arrivals themselves. -/
def evens (n : Nat) (g : Int) : List Int := (List.range n).map fun i : Nat => (i : Int) * g
theorem evens_length (n : Nat) (g : Int) : (evens n g).length = n := by simp [evens]
theorem evens_succ (n : Nat) (g : Int) : evens (n + 1) g = evens n g ++ [(n : Int) * g] := by simp [evens, List.range_succ]
theorem evens_rd (n : Nat) (g : Int) (i : Nat) (h : i < n) : rd (evens n g) i = (i : Int) * g := by
  have h' : ((List.range n).map fun i : Nat => (i : Int) * g)[i]? = some ((i : Int) * g) := by simp [h]
  unfold rd evens
  rw [List.getD_eq_getElem?_getD, Int.toNat_natCast, h']; rfl

def told (n g : Int) : List Int × Bool := if 0 ≤ n ∧ n ≤ 20 ∧ 0 ≤ g ∧ g ≤ 1000 ∧ okFrom n.toNat (evens n.toNat g) 0 = true then (evens n.toNat g, true) else ([], false)

theorem mul_small (i : Nat) (g : Int) (hi : i ≤ 20) (h0 : 0 ≤ g) (h1 : g ≤ 1000) : 0 ≤ (i : Int) * g ∧ (i : Int) * g ≤ 20000 := by
  refine ⟨Int.mul_nonneg (by omega) h0, ?_⟩
  have := Int.mul_le_mul (a := (i : Int)) (b := g) (c := 20) (d := 1000) (by omega) h1 h0 (by omega)
  omega

theorem specEvenL (n : Nat) (g : Int) (hn : n ≤ 20) (h0 : 0 ≤ g) (h1 : g ≤ 1000) : ∀ (d k i : Nat), i + d = n → d + 30 < k → spec_EvenArrivals.l0 k n g (evens i g) i = some (told n g) := by
  intro d
  induction d with
  | zero =>
    intro k i hd hk
    obtain ⟨k, rfl⟩ : ∃ m, k = m + 1 := ⟨k - 1, by omega⟩
    obtain rfl : i = n := by omega
    simp only [spec_EvenArrivals.l0, spec_ArrivalsOk.f]
    have := specArr (evens i g) (by rw [evens_length]; omega) i k 0 (by rw [evens_length]; omega) (by omega)
    rw [if_neg (by omega), evens_length, if_neg (by omega), show (0 : Int) = ((0 : Nat) : Int) from rfl, this]
    simp only [Option.bind_some, told, Int.toNat_natCast]
    by_cases c : okFrom i (evens i g) 0 = true
    · rw [if_pos c, if_pos ⟨by omega, by omega, h0, h1, c⟩]
    · rw [if_neg c, if_neg (by simp [c])]
  | succ d ih =>
    intro k i hd hk
    obtain ⟨k, rfl⟩ : ∃ m, k = m + 1 := ⟨k - 1, by omega⟩
    have hm := mul_small i g (by omega) h0 h1
    simp only [spec_EvenArrivals.l0]
    rw [if_pos (by omega), evens_length, if_pos (by omega), w64 (x := (i : Int) * g) (by omega) (by omega), w64 (x := (i : Int) + 1) (by omega) (by omega), ← evens_succ, show (i : Int) + 1 = ((i + 1 : Nat) : Int) by omega]
    exact ih k (i + 1) (by omega) (by omega)

theorem implEvenL (n : Nat) (g : Int) (hn : n ≤ 20) (h0 : 0 ≤ g) (h1 : g ≤ 1000) : ∀ (d k i : Nat), i + d = n → d + 30 < k → impl_EvenArrivals.l0 k g (evens i g) n i = some (told n g) := by
  intro d
  induction d with
  | zero =>
    intro k i hd hk
    obtain ⟨k, rfl⟩ : ∃ m, k = m + 1 := ⟨k - 1, by omega⟩
    obtain rfl : i = n := by omega
    simp only [impl_EvenArrivals.l0, impl_ArrivalsOk.f]
    have := implArr (evens i g) (by rw [evens_length]; omega) i k 0 (by rw [evens_length]; omega) (by omega)
    rw [evens_length] at this
    rw [if_neg (by omega), evens_length, show (0 : Int) = ((0 : Nat) : Int) from rfl, this]
    simp only [Option.bind_some, told, Int.toNat_natCast]
    by_cases c : okFrom i (evens i g) 0 = true
    · rw [if_pos c, if_pos ⟨by omega, by omega, h0, h1, c⟩]
    · rw [if_neg c, if_neg (by simp [c])]
  | succ d ih =>
    intro k i hd hk
    obtain ⟨k, rfl⟩ : ∃ m, k = m + 1 := ⟨k - 1, by omega⟩
    have hm := mul_small i g (by omega) h0 h1
    simp only [impl_EvenArrivals.l0]
    rw [if_pos (by omega), evens_length, if_pos (by omega), w64 (x := (i : Int) * g) (by omega) (by omega), w64 (x := (i : Int) + 1) (by omega) (by omega), ← evens_succ, show (i : Int) + 1 = ((i + 1 : Nat) : Int) by omega]
    exact ih k (i + 1) (by omega) (by omega)

theorem specEven (n g : Int) (k : Nat) (hk : 60 < k) : spec_EvenArrivals.f k n g = some (told n g) := by
  obtain ⟨k, rfl⟩ : ∃ m, k = m + 1 := ⟨k - 1, by omega⟩
  simp only [spec_EvenArrivals.f, specIn, Option.bind_some, spec_EvenArrivals.j0]
  by_cases c : 0 ≤ n ∧ n ≤ 20
  · obtain ⟨c1, c2⟩ := c
    rw [if_pos (by simp [c1, c2])]
    by_cases d : 0 ≤ g ∧ g ≤ 1000
    · obtain ⟨m, rfl⟩ := Int.eq_ofNat_of_zero_le c1
      have := specEvenL m g (by omega) d.1 d.2 m k 0 (by omega) (by omega)
      rw [if_neg (by simp [d.1, d.2])]
      simpa [evens] using this
    · rw [if_pos (by simp; omega), told, if_neg (by omega)]
  · rw [if_neg (by simp; omega), if_pos trivial, told, if_neg (by omega)]

theorem implEven (n g : Int) (k : Nat) (hk : 60 < k) : impl_EvenArrivals.f k n g = some (told n g) := by
  obtain ⟨k, rfl⟩ : ∃ m, k = m + 1 := ⟨k - 1, by omega⟩
  simp only [impl_EvenArrivals.f, implIn, Option.bind_some, impl_EvenArrivals.j0]
  by_cases c : 0 ≤ n ∧ n ≤ 20
  · obtain ⟨c1, c2⟩ := c
    rw [if_pos (by simp [c1, c2])]
    by_cases d : 0 ≤ g ∧ g ≤ 1000
    · obtain ⟨m, rfl⟩ := Int.eq_ofNat_of_zero_le c1
      have := implEvenL m g (by omega) d.1 d.2 m k 0 (by omega) (by omega)
      rw [if_neg (by simp [d.1, d.2])]
      simpa [evens] using this
    · rw [if_pos (by simp; omega), told, if_neg (by omega)]
  · rw [if_neg (by simp; omega), if_pos trivial, told, if_neg (by omega)]

theorem same_self (l : List Int) (hl : l.length ≤ 20) : ∀ (d k i : Nat), i + d = l.length → d < k → laws_same.l0 k l l i = some true := by
  intro d
  induction d with
  | zero =>
    intro k i hd hk
    obtain ⟨k, rfl⟩ : ∃ m, k = m + 1 := ⟨k - 1, by omega⟩
    simp only [laws_same.l0]; rw [if_neg (by omega)]
  | succ d ih =>
    intro k i hd hk
    obtain ⟨k, rfl⟩ : ∃ m, k = m + 1 := ⟨k - 1, by omega⟩
    simp only [laws_same.l0]
    rw [if_pos (by omega), if_pos (by omega), if_pos (by omega), if_pos trivial, w64 (x := (i : Int) + 1) (by omega) (by omega), show (i : Int) + 1 = ((i + 1 : Nat) : Int) by omega]
    exact ih k (i + 1) (by omega) (by omega)

theorem lawL (n : Nat) (g : Int) (hn : n ≤ 20) (h0 : 0 ≤ g) (h1 : g ≤ 1000) (hok : okFrom n (evens n g) 0 = true) : ∀ (d k i : Nat), 1 ≤ i → i + d = n ∨ n < i ∧ d = 0 → d + 30 < k → laws_FnEven.l0 k n g (evens n g) i = some true := by
  intro d
  induction d with
  | zero =>
    intro k i hi hd hk
    obtain ⟨k, rfl⟩ : ∃ m, k = m + 1 := ⟨k - 1, by omega⟩
    simp only [laws_FnEven.l0, impl_ArrivalsOk.f]
    have := implArr (evens n g) (by rw [evens_length]; omega) n k 0 (by rw [evens_length]; omega) (by omega)
    rw [evens_length] at this
    rw [evens_length, if_neg (by omega), show (0 : Int) = ((0 : Nat) : Int) from rfl, this]
    simp only [Option.bind_some, hok, if_true]
    simp
  | succ d ih =>
    intro k i hi hd hk
    obtain ⟨k, rfl⟩ : ∃ m, k = m + 1 := ⟨k - 1, by omega⟩
    have hm : (i : Int) - 1 = ((i - 1 : Nat) : Int) := by omega
    have hg : (i : Int) * g - ((i - 1 : Nat) : Int) * g = g := by rw [← hm, Int.sub_mul]; omega
    simp only [laws_FnEven.l0]
    rw [evens_length, if_pos (by omega), if_pos (by omega), w64 (x := (i : Int) - 1) (by omega) (by omega), if_pos (by omega), if_pos (by omega), hm, evens_rd n g i (by omega), evens_rd n g (i - 1) (by omega), hg, w64 (x := g) (by omega) (by omega), if_pos rfl, w64 (x := (i : Int) + 1) (by omega) (by omega), show (i : Int) + 1 = ((i + 1 : Nat) : Int) by omega]
    exact ih k (i + 1) (by omega) (by omega) (by omega)

theorem FnEven : laws_FnEven.Pure := by
  intro l _ _ _
  by_cases hb : (l.length : Int) > 1048576
  · exact ⟨0, by simp [laws_FnEven.f, laws_big.f, hb]⟩
  · obtain ⟨n, g, hd⟩ := draw_ok l (by omega) (l.length + 100) (by omega)
    refine ⟨l.length + 100, ?_⟩
    simp only [laws_FnEven.f, laws_big.f, Option.bind_some, decide_eq_true_eq]
    rw [if_neg hb, hd]
    simp only [Option.bind_some]
    rw [specEven n g _ (by omega), implEven n g _ (by omega)]
    simp only [Option.bind_some, bne_self_eq_false, Bool.false_eq_true, if_false]
    have hl : (told n g).1.length ≤ 20 := by
      unfold told; split
      · rw [evens_length]; omega
      · simp
    rw [laws_same.f, if_pos rfl, show (0 : Int) = ((0 : Nat) : Int) from rfl, same_self _ hl (told n g).1.length _ 0 (by omega) (by omega)]
    simp only [Option.bind_some, Bool.not_true]
    obtain ⟨k, hk⟩ : ∃ m, l.length + 100 = m + 1 := ⟨l.length + 99, by omega⟩
    rw [hk]
    simp only [laws_FnEven.j0, Bool.false_eq_true, if_false]
    unfold told
    split
    · rename_i h
      obtain ⟨h0, h1, h2, h3, h4⟩ := h
      obtain ⟨m, rfl⟩ := Int.eq_ofNat_of_zero_le h0
      simp only [Int.toNat_natCast, if_true]
      simp only [Int.toNat_natCast] at h4
      exact lawL m g (by omega) h2 h3 h4 (m - 1) k 1 (by omega) (by omega) (by omega)
    · simp

end Go.Proofs.Ythkdbflhneabbaa.Pure
