/- Part 3: operations on plain values, and what they come to on the machine. -/
import Derived.Test.YtjmhffbenbiieaaEv2
set_option linter.unusedVariables false
set_option linter.unusedSimpArgs false
namespace Go.Proofs.Ytjmhffbenbiieaa.Ev
open Go.RowKit

/-! ### 1. Operands -/
def ofConst : Value → SV
  | .agg cs => .pv (.agg (cs.toList.map .val))
  | v => .pv (.one (.val v))
def ev (st : St) : Operand → SV
  | .tmp t => (look st.sl t).getD (.pv (.one .undef))
  | .const v => ofConst v
  | .func f => .pv (.one (.clo f []))
  | .global _ => .pv (.one .undef)

theorem all2_vals (ρ : Rho) (st : St) (vs : List Value) : All2 (scOk ρ st) vs (vs.map .val) := by
  induction vs with
  | nil => exact .nil
  | cons v vs ih => exact .cons rfl ih
theorem ev_ok {P : Program} {w0 : World} {F : Nat → Prop} {G : List Nat} {U : List Value} {nt : Nat} {ρ : Rho} {st : St} {a : Act} {w : World} (h : Rel P w0 F G U nt ρ st a w) (x : Operand) : svOk ρ st (a.eval x) (ev st x) := by
  cases x with
  | tmp t =>
    simp only [ev, Act.eval]
    cases e : look st.sl t with
    | none => trivial
    | some sv => exact h.slots t sv e
  | const v =>
    cases v with
    | agg cs => exact ⟨cs.toList, by simp [Act.eval], all2_vals _ _ _⟩
    | _ => rfl
  | func f => exact ⟨by simp, fun _ => by simp [Act.eval]⟩
  | global g => trivial

/-- The value of a scalar that is plain. -/
def SV.val? : SV → Option Value
  | .pv (.one (.val v)) => some v
  | _ => none
theorem val?_ok {ρ : Rho} {st : St} {v u : Value} {s : SV} (h : svOk ρ st v s) (hs : s.val? = some u) : v = u := by
  unfold SV.val? at hs
  split at hs
  · cases hs; exact h
  · cases hs

/-! ### 2. Plain operations -/
def binInt (op : BinOp) (k : IntKind) (a b : Int) : Option Value :=
  match op with
  | .add => some (.int k (k.wrap (a + b)))
  | .sub => some (.int k (k.wrap (a - b)))
  | .mul => some (.int k (k.wrap (a * b)))
  | .quo => if b = 0 then none else some (.int k (k.wrap (a.tdiv b)))
  | .rem => if b = 0 then none else some (.int k (a.tmod b))
  | .eql => some (.bool (a == b))
  | .neq => some (.bool (a != b))
  | .lss => some (.bool (decide (a < b)))
  | .leq => some (.bool (decide (a ≤ b)))
  | .gtr => some (.bool (decide (a > b)))
  | .geq => some (.bool (decide (a ≥ b)))
  | .and => some (.int k (Go.bits .and k a b))
  | .or => some (.int k (Go.bits .or k a b))
  | .xor => some (.int k (Go.bits .xor k a b))
  | _ => none
def binStr (op : BinOp) (a b : ByteArray) : Option Value :=
  match op with
  | .add => if a.size + b.size ≤ 9223372036854775807 then some (.string (a ++ b)) else none
  | .eql => some (.bool (a.toList == b.toList))
  | .neq => some (.bool !(a.toList == b.toList))
  | .lss => some (.bool (Op.bytesLess a.toList b.toList))
  | _ => none
def binV (op : BinOp) : Value → Value → Option Value
  | .int k a, .int k' b =>
    match op with
    | .shl => if b < 0 then none else some (.int k (k.wrap (a * 2 ^ min b.toNat k.bits)))
    | .shr => if b < 0 then none else some (.int k (a.fdiv (2 ^ min b.toNat k.bits)))
    | _ => if k = k' then binInt op k a b else none
  | .string a, .string b => binStr op a b
  | .bool a, .bool b => match op with
    | .eql => some (.bool (a == b))
    | .neq => some (.bool (a != b))
    | _ => none
  | _, _ => none
def unV (op : UnOp) : Value → Option Value
  | .bool b => match op with
    | .not => some (.bool !b)
    | _ => none
  | .int k n => match op with
    | .neg => some (.int k (k.wrap (0 - n)))
    | _ => none
  | _ => none

theorem binV_ok {P : Program} {op : BinOp} {t : TypeId} {x y : Operand} {u v r : Value} (h : binV op u v = some r) (hb : ∀ a b, u = .bool a → v = .bool b → P.underlying t = some .bool) (w : World) :
    (do eqGuard op t x y u v; binOp op t u v : Sem Value).run P w = .ok r w := by
  unfold binV at h
  split at h
  · rename_i k a k' b
    have hg : (eqGuard op t x y (.int k a) (.int k' b)).run P w = .ok () w := by unfold eqGuard; cases op <;> rfl
    rw [Sem.run_bind, hg]
    simp only [Result.andThen_ok]
    split at h
    · split at h
      · cases h
      · rename_i hn; injection h with h; subst h; simp [binOp, Op.shift, hn]
    · split at h
      · cases h
      · rename_i hn; injection h with h; subst h; simp [binOp, Op.shift, hn]
    · rename_i n1 n2
      split at h
      · rename_i hk; subst hk
        have hbo : binOp op t (.int k a) (.int k b) = (match op with
            | .add | .sub | .mul => Op.intArith op k a b
            | .quo | .rem => Op.intDiv op k a b
            | .and | .or | .xor | .andNot => Op.intBits op k a b
            | _ => Op.intCmp op a b) := by
          cases op <;> first | (exact absurd rfl n1) | (exact absurd rfl n2) | simp [binOp]
        rw [hbo]
        cases op <;> simp only [binInt] at h <;> first
          | (split at h; · cases h
             · rename_i hz; injection h with h; subst h; simp [Op.intDiv, hz])
          | (injection h with h; subst h; first | rfl | simp [Op.intArith, Op.intCmp, Op.intBits, Go.bits])
          | cases h
      · cases h
  · rename_i a b
    have hg : (eqGuard op t x y (.string a) (.string b)).run P w = .ok () w := by unfold eqGuard; cases op <;> rfl
    rw [Sem.run_bind, hg]
    simp only [Result.andThen_ok]
    have hbo : binOp op t (.string a) (.string b) = Op.stringOp op a b := by cases op <;> rfl
    rw [hbo]
    cases op <;> simp only [binStr] at h <;> first
      | (split at h
         · rename_i hs; injection h with h; subst h
           have : ¬ (((a.size + b.size : Nat) : Int) > IntKind.i64.max) := by simp [IntKind.max, IntKind.bits, IntKind.signed]; omega
           simp only [Op.stringOp]
           rw [if_neg this]; rfl
         · cases h)
      | (injection h with h; subst h; simp [Op.stringOp])
      | cases h
  · rename_i a b
    have hu := hb a b rfl rfl
    have hg : (eqGuard op t x y (.bool a) (.bool b)).run P w = .ok () w := by unfold eqGuard; cases op <;> rfl
    rw [Sem.run_bind, hg]
    simp only [Result.andThen_ok]
    have he : (Op.equal t (.bool a) (.bool b)).run P w = .ok (a == b) w := by unfold Op.equal Op.maxDepth; exact run_equalIn_bool w 9999 t a b hu
    split at h
    · injection h with h; subst h
      show (do pure (.bool (← Op.equal t (.bool a) (.bool b))) : Sem Value).run P w = _
      rw [Sem.run_bind, he]; rfl
    · injection h with h; subst h
      show (do pure (.bool (!(← Op.equal t (.bool a) (.bool b)))) : Sem Value).run P w = _
      rw [Sem.run_bind, he]; rfl
    · cases h
  · cases h
theorem unV_ok {P : Program} {op : UnOp} {u r : Value} (h : unV op u = some r) (w : World) : (Op.unary op u).run P w = .ok r w := by
  unfold unV at h
  split at h
  · split at h
    · injection h with h; subst h; rfl
    · cases h
  · split at h
    · injection h with h; subst h; rfl
    · cases h
  · cases h


/-! ### Written out: what a state says is reckoned before one goes on -/
def fN (n : Nat) (K : Nat → Prop) : Prop := match n with
  | 0 => K 0
  | m + 1 => K (m + 1)
/-- To the end. -/
def fU : Nat → (Nat → Prop) → Prop
  | 0, K => K 0
  | m + 1, K => fU m fun m => K (m + 1)
def fB (b : Bool) (K : Bool → Prop) : Prop := match b with
  | true => K true
  | false => K false
def fNs : List Nat → (List Nat → Prop) → Prop
  | [], K => K []
  | x :: r, K => fU x fun x => fNs r fun r => K (x :: r)
def fC : SC → (SC → Prop) → Prop
  | .val v, K => K (.val v)
  | .ref r n, K => fU r fun r => K (.ref r n)
  | .ptr o off, K => fU o fun o => fN off fun off => K (.ptr o off)
  | .eptr r i j, K => fU r fun r => fN j fun j => K (.eptr r i j)
  | .clo f os, K => fNs os fun os => K (.clo f os)
  | .undef, K => K .undef
def fCs : List SC → (List SC → Prop) → Prop
  | [], K => K []
  | c :: r, K => fC c fun c => fCs r fun r => K (c :: r)
def fP : PV → (PV → Prop) → Prop
  | .one c, K => fC c fun c => K (.one c)
  | .agg cs, K => fCs cs fun cs => K (.agg cs)
def fPs : List PV → (List PV → Prop) → Prop
  | [], K => K []
  | c :: r, K => fP c fun c => fPs r fun r => K (c :: r)
def fV : SV → (SV → Prop) → Prop
  | .pv p, K => fP p fun p => K (.pv p)
  | .tup ps, K => fPs ps fun ps => K (.tup ps)
def fSl : List (Nat × SV) → (List (Nat × SV) → Prop) → Prop
  | [], K => K []
  | (t, s) :: r, K => fN t fun t => fV s fun s => fSl r fun r => K ((t, s) :: r)
def fRow : Row → (Row → Prop) → Prop
  | ⟨own, el, xs⟩, K => fB own fun own => K ⟨own, el, xs⟩
def fRw : List (Nat × Row) → (List (Nat × Row) → Prop) → Prop
  | [], K => K []
  | (t, s) :: r, K => fU t fun t => fRow s fun s => fRw r fun r => K ((t, s) :: r)
def fOb1 : Ob → (Ob → Prop) → Prop
  | ⟨T, cs, own⟩, K => fCs cs fun cs => fB own fun own => K ⟨T, cs, own⟩
def fOb : List (Nat × Ob) → (List (Nat × Ob) → Prop) → Prop
  | [], K => K []
  | (t, s) :: r, K => fU t fun t => fOb1 s fun s => fOb r fun r => K ((t, s) :: r)
def fSt : St → (St → Prop) → Prop
  | ⟨sl, rw, ob, nx, po, pr⟩, K => fSl sl fun sl => fRw rw fun rw => fOb ob fun ob => fU nx fun nx => fNs po fun po => fNs pr fun pr => K ⟨sl, rw, ob, nx, po, pr⟩
theorem fN_eq (n : Nat) (K : Nat → Prop) : fN n K = K n := by cases n <;> rfl
theorem fU_eq : ∀ (n : Nat) (K : Nat → Prop), fU n K = K n
  | 0, K => rfl
  | n + 1, K => by simp only [fU, fU_eq n]
theorem fB_eq (n : Bool) (K : Bool → Prop) : fB n K = K n := by cases n <;> rfl
theorem fNs_eq : ∀ (l : List Nat) (K : List Nat → Prop), fNs l K = K l
  | [], K => rfl
  | x :: r, K => by simp only [fNs, fU_eq, fNs_eq r]
theorem fC_eq (c : SC) (K : SC → Prop) : fC c K = K c := by cases c <;> simp only [fC, fN_eq, fU_eq, fNs_eq]
theorem fCs_eq : ∀ (l : List SC) (K : List SC → Prop), fCs l K = K l
  | [], K => rfl
  | x :: r, K => by simp only [fCs, fC_eq, fCs_eq r]
theorem fP_eq (c : PV) (K : PV → Prop) : fP c K = K c := by cases c <;> simp only [fP, fC_eq, fCs_eq]
theorem fPs_eq : ∀ (l : List PV) (K : List PV → Prop), fPs l K = K l
  | [], K => rfl
  | x :: r, K => by simp only [fPs, fP_eq, fPs_eq r]
theorem fV_eq (c : SV) (K : SV → Prop) : fV c K = K c := by cases c <;> simp only [fV, fP_eq, fPs_eq]
theorem fSl_eq : ∀ (l : List (Nat × SV)) (K : List (Nat × SV) → Prop), fSl l K = K l
  | [], K => rfl
  | (t, s) :: r, K => by simp only [fSl, fN_eq, fV_eq, fSl_eq r]
theorem fRow_eq (r : Row) (K : Row → Prop) : fRow r K = K r := by cases r; simp only [fRow, fB_eq]
theorem fRw_eq : ∀ (l : List (Nat × Row)) (K : List (Nat × Row) → Prop), fRw l K = K l
  | [], K => rfl
  | (t, s) :: r, K => by simp only [fRw, fU_eq, fRow_eq, fRw_eq r]
theorem fOb1_eq (r : Ob) (K : Ob → Prop) : fOb1 r K = K r := by cases r; simp only [fOb1, fB_eq, fCs_eq]
theorem fOb_eq : ∀ (l : List (Nat × Ob)) (K : List (Nat × Ob) → Prop), fOb l K = K l
  | [], K => rfl
  | (t, s) :: r, K => by simp only [fOb, fU_eq, fOb1_eq, fOb_eq r]
theorem fSt_eq (st : St) (K : St → Prop) : fSt st K = K st := by cases st; simp only [fSt, fSl_eq, fRw_eq, fOb_eq, fU_eq, fNs_eq]
end Go.Proofs.Ytjmhffbenbiieaa.Ev
