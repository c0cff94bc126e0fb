import Derived.Test.YtjmhffbenbiieaaT15
set_option linter.unusedVariables false
set_option linter.unusedSimpArgs false
namespace Go.Proofs.Ytjmhffbenbiieaa.Ev
open Go.RowKit

theorem wrap_u8 {n : Int} (h1 : 0 ≤ n) (h2 : n ≤ 255) : IntKind.u8.wrap n = n := by
  have : IntKind.u8.wrap n = n % 256 := by simp [IntKind.wrap, IntKind.bits, IntKind.signed]
  rw [this]; omega
def mkGo (k : Nat) (acc : ByteArray) : ByteArray :=
  if h : 0 < k then mkGo (k / 10) (ofInts [((48 + k % 10 : Nat) : Int)] ++ acc) else acc
termination_by k
decreasing_by exact Nat.div_lt_self h (by decide)
def mkT (k : Nat) : ByteArray := if 0 < k then ⟨#[109]⟩ ++ mkGo k ⟨#[]⟩ else ⟨#[109, 48]⟩
theorem ok_markText (k : Nat) (hk : k ≤ 1099511627776) : Ok cx 25 [vi k] [] [] [.one (.val (.string (mkT k)))] [] [] := by
  refine Ok_of_vc (C := cx) cx_ok cx_mix (fn := Try.f25) rfl (by kernel_rfl) rfl (Nat.le_of_ble_eq_true (by kernel_rfl)) ?_
  conv => whnf
  refine Two.mk (fun h => ?_) (fun h => ?_) <;> conv => whnf
  · have h0 : ¬ 0 < k := by have := of_decide_eq_true h; omega
    repeat' (first | exact True.intro | exact rfl | (refine FinG.done ?_; conv => whnf) | (refine And.intro ?_ ?_) | exact Nat.le_of_ble_eq_true rfl | (refine Two.no rfl ?_; conv => whnf) | (refine Two.yes rfl ?_; conv => whnf))
    conv => whnf
    rw [mkT, if_neg h0]
  · have h0 : 0 < k := by have := of_decide_eq_false h; omega
    refine ⟨Nat × ByteArray, fun x => x.1 ≤ k ∧ mkGo x.1 x.2 = mkGo k ⟨#[]⟩ ∧ x.2.size ≤ k - x.1, fun x => x.1,
      fun x => { sl := [(0, .pv (.one (.val (.int .i64 x.1)))), (2, sS ⟨#[]⟩), (3, sS x.2)], rw := [], ob := [], nx := 0, po := [], pr := [] },
      (k, ⟨#[]⟩), ⟨Nat.le_refl _, rfl, Nat.zero_le _⟩, ?_, fun x hx => ?_⟩
    · repeat' (first | exact True.intro | exact rfl | (refine FinG.done ?_; conv => whnf) | (refine And.intro ?_ ?_) | exact Nat.le_of_ble_eq_true rfl | (refine Two.no rfl ?_; conv => whnf) | (refine Two.yes rfl ?_; conv => whnf))
    · obtain ⟨i, acc⟩ := x
      obtain ⟨hi, hx, hsz⟩ := hx
      dsimp only at hi hx hsz
      conv => whnf
      refine Two.mk (fun h2 => ?_) (fun h2 => ?_) <;> conv => whnf
      · have hlt : 0 < i := by simpa using h2
        refine ⟨rfl, by decide, ?_⟩
        conv => whnf
        refine ⟨True.intro, [((48 + i % 10 : Nat) : Int)], ?_, ?_⟩
        · show [Value.int IntKind.u8 (IntKind.u8.wrap (IntKind.i64.wrap (48 + (i : Int).tmod 10)))] = [Value.int IntKind.u8 ((48 + i % 10 : Nat) : Int)]
          have e1 : (i : Int).tmod 10 = ((i % 10 : Nat) : Int) := rfl
          rw [e1, wrap_id (by omega) (by omega), wrap_u8 (by omega) (by omega)]
          rfl
        conv => whnf
        refine ⟨by show 1 + acc.size ≤ 9223372036854775807; omega, ?_⟩
        conv => whnf
        refine ⟨rfl, by decide, ?_⟩
        conv => whnf
        have hd : i / 10 < i := Nat.div_lt_self hlt (by decide)
        refine ⟨(i / 10, ofInts [((48 + i % 10 : Nat) : Int)] ++ acc), ⟨⟨by show i / 10 ≤ k; omega, by rw [← hx]; show mkGo (i / 10) _ = _; rw [mkGo.eq_1 i, dif_pos hlt], ?_⟩, hd⟩, ?_⟩
        · show (ofInts [((48 + i % 10 : Nat) : Int)] ++ acc).size ≤ k - i / 10
          rw [ByteArray.size_append]
          show 1 + acc.size ≤ k - i / 10
          omega
        repeat' (first | exact True.intro | exact rfl | (refine FinG.done ?_; conv => whnf) | (refine And.intro ?_ ?_) | exact Nat.le_of_ble_eq_true rfl | (refine Two.no rfl ?_; conv => whnf) | (refine Two.yes rfl ?_; conv => whnf))
        conv => whnf
        have e2 : IntKind.i64.wrap ((i : Int).tdiv 10) = ((i / 10 : Nat) : Int) := by
          have e1 : (i : Int).tdiv 10 = ((i / 10 : Nat) : Int) := rfl
          rw [e1, wrap_id (by omega) (by omega)]
        exact (congrArg (Value.int IntKind.i64) e2).symm
      · have hge : ¬ 0 < i := by simpa using h2
        refine ⟨by show 1 + acc.size ≤ 9223372036854775807; omega, ?_⟩
        conv => whnf
        repeat' (first | exact True.intro | exact rfl | (refine FinG.done ?_; conv => whnf) | (refine And.intro ?_ ?_) | exact Nat.le_of_ble_eq_true rfl | (refine Two.no rfl ?_; conv => whnf) | (refine Two.yes rfl ?_; conv => whnf))
        conv => whnf
        rw [mkT, if_pos h0, ← hx, mkGo, dif_neg hge]
end Go.Proofs.Ytjmhffbenbiieaa.Ev
