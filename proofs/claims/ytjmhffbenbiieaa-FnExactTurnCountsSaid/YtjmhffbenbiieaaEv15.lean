/- Part 15: what an operation that only reads comes to, reckoned. -/
import Derived.Test.YtjmhffbenbiieaaEv14
set_option linter.unusedVariables false
set_option linter.unusedSimpArgs false
namespace Go.Proofs.Ytjmhffbenbiieaa.Ev
open Go.RowKit

/-- A side condition of two parts, and what comes behind it. -/
structure Bnd (A B K : Prop) : Prop where
  a : A
  b : B
  k : K
/-- One side condition. -/
structure Bnd1 (A K : Prop) : Prop where
  a : A
  k : K
/-- Two ways. -/
structure Two (b : Bool) (X Y : Prop) : Prop where
  t : b = true → X
  f : b = false → Y
theorem Two.yes {b : Bool} {X Y : Prop} (h : b = true) (k : X) : Two b X Y := ⟨fun _ => k, fun e => by rw [h] at e; cases e⟩
theorem Two.no {b : Bool} {X Y : Prop} (h : b = false) (k : Y) : Two b X Y := ⟨fun e => (by rw [h] at e; cases e), fun _ => k⟩
def binK (op : BinOp) (u v : Value) (K : Value → Prop) : Prop :=
  match u, v with
  | .int k a, .int k' b =>
    match op with
    | .shl => Bnd1 (0 ≤ b) (K (.int k (k.wrap (a * 2 ^ min b.toNat k.bits))))
    | .shr => Bnd1 (0 ≤ b) (K (.int k (a.fdiv (2 ^ min b.toNat k.bits))))
    | .quo => Bnd (k = k') (b ≠ 0) (K (.int k (k.wrap (a.tdiv b))))
    | .rem => Bnd (k = k') (b ≠ 0) (K (.int k (a.tmod b)))
    | op => if k = k' then (match binInt op k a b with
      | some r => K r
      | none => False) else False
  | .string a, .string b =>
    match op with
    | .add => Bnd1 (a.size + b.size ≤ 9223372036854775807) (K (.string (a ++ b)))
    | op => match binStr op a b with
      | some r => K r
      | none => False
  | .bool a, .bool b =>
    match op with
    | .eql => K (.bool (a == b))
    | .neq => K (.bool (a != b))
    | _ => False
  | _, _ => False
theorem binK_ok {op : BinOp} {u v : Value} {K : Value → Prop} (h : binK op u v K) : ∃ r, binV op u v = some r ∧ K r := by
  unfold binK at h
  split at h
  · rename_i k a k' b
    split at h
    · have := h.1; have : ¬ b < 0 := by omega
      exact ⟨_, by simp [binV, this], h.2⟩
    · have := h.1; have : ¬ b < 0 := by omega
      exact ⟨_, by simp [binV, this], h.2⟩
    · obtain ⟨rfl, h1, h2⟩ := h; exact ⟨_, by simp [binV, binInt, h1], h2⟩
    · obtain ⟨rfl, h1, h2⟩ := h; exact ⟨_, by simp [binV, binInt, h1], h2⟩
    · rename_i n1 n2 n3 n4
      split at h
      · rename_i hk
        split at h
        · rename_i r hr
          refine ⟨r, ?_, h⟩
          cases op <;> first | exact absurd rfl n1 | exact absurd rfl n2 | (simp only [binV, hk, if_true]; rw [← hk]; exact hr)
        · cases h
      · cases h
  · rename_i a b
    split at h
    · exact ⟨_, by simp [binV, binStr, h.1], h.2⟩
    · split at h
      · rename_i r hr; exact ⟨r, hr, h⟩
      · cases h
  · split at h
    · exact ⟨_, rfl, h⟩
    · exact ⟨_, rfl, h⟩
    · cases h
  · cases h
/-- Booleans are held against each other at a Boolean type alone. -/
def boolOp (C : Cx) (T : Nat) : Value → Bool
  | .bool _ => C.bt T
  | _ => true

def lenK (C : Cx) (T : Nat) (st : St) (s : SV) (K : Int → Prop) : Prop :=
  match C.lay T, s with
  | some .str, .pv (.one (.val (.string b))) => K b.size
  | some (.sl _), .pv (.one (.val (.slice none 0 0))) => K 0
  | some (.sl _), .pv (.one (.ref r n)) => if (look st.rw r).isSome then K n else False
  | _, _ => False

/-- Numbers as a string's bytes. -/
def ofInts (ns : List Int) : ByteArray := ns.foldl (fun r n => r.push (UInt8.ofNat n.toNat)) ByteArray.empty
/-- What an operation that only reads comes to. -/
def readP (C : Cx) (st : St) (o : Oper) (K : SV → Prop) : Prop :=
  match o.op with
  | .move x => K (ev st x)
  | .assign x => K (ev st x)
  | .pick x y z => match (ev st x).bool? with
    | some t => K (pickSV t (ev st y) (ev st z))
    | none => False
  | .binOp op T x y _ => match (ev st x).val?, (ev st y).val? with
    | some u, some v => if boolOp C T u = true then binK op u v fun r => K (.pv (.one (.val r))) else False
    | _, _ => False
  | .unOp op _ x => match (ev st x).val? with
    | some u => match unV op u with
      | some r => K (.pv (.one (.val r)))
      | none => False
    | none => False
  | .convert S T x => match ev st x with
    | .pv (.one (.val (.int _ n))) => match C.ik S, C.ik T with
      | some _, some k' => K (.pv (.one (.val (.int k' (k'.wrap n)))))
      | _, _ => False
    | .pv (.one (.ref r n)) => match C.lay S, C.lay T, look st.rw r with
      | some (.sl E), some .str, some row => match C.ik E with
        | some .u8 => if row.el.sz = 1 then Bnd1 True (∃ ns : List Int, row.el.flat (row.xs.take n) = ns.map (Value.int .u8) ∧ K (.pv (.one (.val (.string (ofInts ns)))))) else False
        | _ => False
      | _, _, _ => False
    | _ => False
  | .load T x => match C.lay T, ev st x with
    | some l, .pv (.one (.ptr q off)) => match look st.ob q with
      | some ob => match ldCells l ob.cs off with
        | some s => K s
        | none => False
      | none => False
    | some l, .pv (.one (.eptr r i j)) => match look st.rw r with
      | some row => match ldElem l (row.el.enc (row.xs.getD i row.el.zero)) j with
        | some s => K s
        | none => False
      | none => False
    | _, _ => False
  | .fieldAddr S x k => match C.lay S, ev st x with
    | some l, .pv (.one (.ptr q off)) => match l.fld k, look st.ob q with
      | some p, some _ => K (.pv (.one (.ptr q (off + p.1))))
      | _, _ => False
    | some l, .pv (.one (.eptr r i j)) => match l.fld k, look st.rw r with
      | some p, some _ => K (.pv (.one (.eptr r i (j + p.1))))
      | _, _ => False
    | _, _ => False
  | .nilCheck x => match ev st x with
    | .pv (.one (.ptr q off)) => if st.live (.ptr q off) = true then K (.pv (.one (.ptr q off))) else False
    | .pv (.one (.eptr r i j)) => if st.live (.eptr r i j) = true then K (.pv (.one (.eptr r i j))) else False
    | _ => False
  | .indexAddr T x y => match ev st x, (ev st y).val? with
    | .pv (.one (.ref r n)), some (.int _ i) => match look st.rw r, C.lay T with
      | some row, some (.sl E) => if E = row.el.T then Bnd (0 ≤ i) (i < n) (K (.pv (.one (.eptr r i.toNat 0)))) else False
      | _, _ => False
    | _, _ => False
  | .field S x k => match C.lay S, ev st x with
    | some l, .pv (.agg cs) => match l.fld k with
      | some p => match C.lay p.2 with
        | some l' => match ldCells l' cs p.1 with
          | some s => K s
          | none => False
        | none => False
      | none => False
    | _, _ => False
  | .extract x i => match ev st x with
    | .tup ps => match ps[i]? with
      | some p => K (.pv p)
      | none => False
    | _ => False
  | .makeFunc fn first cap => match fn, first.toList, cloOf (cap.toList.map (ev st)) with
    | .func f, [], some os => K (.pv (.one (.clo f os)))
    | _, _, _ => False
  | .index T x y => match C.lay T, (ev st x).val?, (ev st y).val? with
    | some .str, some (.string s), some (.int _ i) => Bnd (0 ≤ i) (i < s.size) (K (.pv (.one (.val (.int .u8 ((s.data.toList.getD i.toNat 0).toNat))))))
    | _, _, _ => False
  | .slice T x lo hi none => match C.lay T, ev st x with
    | some .str, .pv (.one (.val (.string s))) => match bnd st lo 0, bnd st hi s.size with
      | some l, some u => Bnd1 (0 ≤ l ∧ l ≤ u ∧ u ≤ s.size) (K (.pv (.one (.val (.string (s.extract l.toNat u.toNat))))))
      | _, _ => False
    | some (.sl E), .pv (.one (.ref r n)) => match lo, look st.rw r, bnd st hi n with
      | none, some row, some u => if E = row.el.T then Bnd1 (0 ≤ u ∧ u ≤ n) (K (.pv (.one (.ref r u.toNat)))) else False
      | _, _, _ => False
    | _, _ => False
  | .build T parts => match C.lay T with
    | some (.st _ zs fs) => match buildOf C st fs parts.toList (zs.map .val) with
      | some cs => K (.pv (.agg cs))
      | none => False
    | _ => False
  | .call c => match c.callee, c.args.toList, c.argTypes.toList with
    | .builtin .len, [x], [T] => lenK C T st (ev st x) fun n => K (.pv (.one (.val (.int .i64 n))))
    | .builtin b, [x, y], _ => match (ev st x).val?, (ev st y).val? with
      | some u, some v => match mmV b u v with
        | some r => K (.pv (.one (.val r)))
        | none => False
      | _, _ => False
    | _, _, _ => False
  | _ => False

section
variable {C : Cx} {w0 : World} {F : Nat → Prop} {G : List Nat} {U : List Value} {nt : Nat} {ρ : Rho} {st : St} {a : Act} {w : World}

theorem val_of {s : SV} {v : Value} (h : s = .pv (.one (.val v))) : s.val? = some v := by rw [h]; rfl
/-- Whatever the machine's state, if it is as st says, o comes to s. -/
def Comes1 (C : Cx) (st : St) (o : Oper) (s : SV) : Prop := ∀ (w0 : World) (F : Nat → Prop) (G : List Nat) (U : List Value) (nt : Nat) (ρ : Rho) (a : Act) (w : World), Rel C.P w0 F G U nt ρ st a w → Reads C ρ st o a w s
theorem lenK_ok (hC : C.Ok) {o : Oper} {T : Nat} {x : Operand} {K : Int → Prop} (ho : o.op = .call { callee := .builtin .len, args := #[x], argTypes := #[T] }) (hk : lenK C T st (ev st x) K) : ∃ n, Comes1 C st o (.pv (.one (.val (.int .i64 n)))) ∧ K n := by
  unfold lenK at hk
  split at hk
  · rename_i b e1 e2
    refine ⟨_, fun _ _ _ _ _ _ _ _ h => does_len hC h ho (.inl e1) ⟨fun _ => ⟨b, val_of e2⟩, fun _ => e1⟩ (by rw [e2]; rfl), hk⟩
  · rename_i e e1 e2
    refine ⟨_, fun _ _ _ _ _ _ _ _ h => does_len hC h ho (.inr ⟨e, e1⟩) ⟨fun h => by rw [e1] at h; (injection h with h; cases h), fun h => by rw [e2] at h; obtain ⟨s, h⟩ := h; simp [SV.val?] at h⟩ (by rw [e2]; rfl), hk⟩
  · rename_i e r n e1 e2
    split at hk
    · rename_i e3
      refine ⟨_, fun _ _ _ _ _ _ _ _ h => does_len hC h ho (.inr ⟨e, e1⟩) ⟨fun h => by rw [e1] at h; (injection h with h; cases h), fun h => by rw [e2] at h; obtain ⟨s, h⟩ := h; simp [SV.val?] at h⟩ (by rw [e2]; simp [lenOf, e3]), hk⟩
    · cases hk
  · cases hk

theorem does_bytesStr (hC : C.Ok) (h : Rel C.P w0 F G U nt ρ st a w) {o : Oper} {S T E r n : Nat} {x : Operand} {row : Row} {ns : List Int} (ho : o.op = .convert S T x) (hx : ev st x = .pv (.one (.ref r n))) (hr : look st.rw r = some row) (hS : C.lay S = some (.sl E)) (hT : C.lay T = some .str) (hE : C.ik E = some .u8) (hz : row.el.sz = 1)
    (hn : row.el.flat (row.xs.take n) = ns.map (Value.int .u8)) : Reads C ρ st o a w (.pv (.one (.val (.string (ofInts ns))))) := by
  have hv := ev_ok h x
  rw [hx] at hv
  obtain ⟨A, m, c, e1, hp, hle⟩ := hv.2 row hr
  have hrow := h.mem.row r row hr
  have hrd := row_rd hrow
  rw [e1] at hrd
  have hrd2 := rd_prefix hrow.1 hrd hle
  obtain ⟨A', c', e2, _, _, h3⟩ := hrd2
  injection e2 with e2 e3 e4
  have hlen : (row.xs.take n).length = n := by rw [List.length_take]; omega
  have hc := run_convert_bytes_string w S T E A n c (hC.lay S _ hS).1 (hC.ik E _ hE) (hC.lay T _ hT).1
  refine ⟨.string (ofInts ns), ?_, rfl⟩
  simp only [execOp, ho, hp]
  rw [Sem.run_bind, hc]
  by_cases h0 : n = 0
  · have hns : ns = [] := by
      have : (row.xs.take n) = [] := by rw [h0]; rfl
      rw [this] at hn
      cases ns with
      | nil => rfl
      | cons _ _ => simp [El.flat] at hn
    subst hns; subst h0
    cases A with
    | none => rfl
    | some ad =>
      have hl : (loadCells ad 0).run C.P w = .ok (([] : List Int).map (Value.int .u8)).toArray w := run_loadCells_list (P := C.P) w ad [] (by simp)
      rw [run_bytesToString w ad 0 c [] hl]; rfl
  · obtain ⟨ad, e5, hcell⟩ := h3 (by omega)
    rw [← e2] at e5; subst e5
    have hll : (ns.map (Value.int .u8)).length = n := by rw [← hn, flat_length hrow.1, hlen, hz, Nat.mul_one]
    have hl := run_loadCells_list (P := C.P) w ad (ns.map (Value.int .u8)) (fun k u hu => hcell k u (by rw [hn]; exact hu))
    rw [hll] at hl
    rw [run_bytesToString w ad n c ns hl]; rfl
theorem readP_ok (hC : C.Ok) {o : Oper} {K : SV → Prop} (hp : readP C st o K) : ∃ s, Comes1 C st o s ∧ K s := by
  unfold readP at hp
  split at hp
  · rename_i x ho; exact ⟨_, fun _ _ _ _ _ _ _ _ h => does_move h (.inl ho), hp⟩
  · rename_i x ho; exact ⟨_, fun _ _ _ _ _ _ _ _ h => does_move h (.inr ho), hp⟩
  · rename_i x y z ho
    split at hp
    · rename_i t e; exact ⟨_, fun _ _ _ _ _ _ _ _ h => does_pick h ho e, hp⟩
    · cases hp
  · rename_i op T x y T' ho
    split at hp
    · rename_i u v e1 e2
      split at hp
      · rename_i e3
        obtain ⟨r, hr, hK⟩ := binK_ok hp
        refine ⟨_, fun _ _ _ _ _ _ _ _ h => does_bin hC h ho e1 e2 hr (fun a b ha _ => ?_), hK⟩
        subst ha
        exact hC.bt T e3
      · cases hp
    · cases hp
  · rename_i op T x ho
    split at hp
    · rename_i u e1
      split at hp
      · rename_i r e2; exact ⟨_, fun _ _ _ _ _ _ _ _ h => does_un h ho e1 e2, hp⟩
      · cases hp
    · cases hp
  · rename_i S T x ho
    split at hp
    · rename_i k n e1
      split at hp
      · rename_i k1 k' e2 e3
        exact ⟨_, fun _ _ _ _ _ _ _ _ h => does_convInt hC h ho (val_of e1) (hC.ik _ _ e3) ⟨_, hC.ik _ _ e2⟩, hp⟩
      · cases hp
    · rename_i r n e1
      split at hp
      · rename_i E row e2 e3 e4
        split at hp
        · rename_i e5
          split at hp
          · rename_i e6
            obtain ⟨_, ns, h1, hK⟩ := hp
            exact ⟨_, fun _ _ _ _ _ _ _ _ h => does_bytesStr hC h ho e1 e4 e2 e3 e5 e6 h1, hK⟩
          · cases hp
        · cases hp
      · cases hp
    · cases hp
  · rename_i T x ho
    split at hp
    · rename_i l q off e1 e2
      split at hp
      · rename_i ob e3
        split at hp
        · rename_i s e4; exact ⟨_, fun _ _ _ _ _ _ _ _ h => does_load_ptr hC h ho e1 e2 e3 e4, hp⟩
        · cases hp
      · cases hp
    · rename_i l r i j e1 e2
      split at hp
      · rename_i row e3
        split at hp
        · rename_i s e4; exact ⟨_, fun _ _ _ _ _ _ _ _ h => does_load_eptr hC h ho e1 e2 e3 e4, hp⟩
        · cases hp
      · cases hp
    · cases hp
  · rename_i S x k ho
    split at hp
    · rename_i l q off e1 e2
      split at hp
      · rename_i p ob e3 e4; exact ⟨_, fun _ _ _ _ _ _ _ _ h => does_fieldAddr_ptr hC h ho e1 e3 e2 e4, hp⟩
      · cases hp
    · rename_i l r i j e1 e2
      split at hp
      · rename_i p ob e3 e4; exact ⟨_, fun _ _ _ _ _ _ _ _ h => does_fieldAddr_eptr hC h ho e1 e3 e2 e4, hp⟩
      · cases hp
    · cases hp
  · rename_i x ho
    split at hp
    · rename_i q off e1
      split at hp
      · rename_i e2; exact ⟨_, fun _ _ _ _ _ _ _ _ h => does_nilCheck h ho e1 (.inl ⟨_, _, rfl⟩) e2, hp⟩
      · cases hp
    · rename_i r i j e1
      split at hp
      · rename_i e2; exact ⟨_, fun _ _ _ _ _ _ _ _ h => does_nilCheck h ho e1 (.inr ⟨_, _, _, rfl⟩) e2, hp⟩
      · cases hp
    · cases hp
  · rename_i T x y ho
    split at hp
    · rename_i r n k i e1 e2
      split at hp
      · rename_i row E e3 e4
        split at hp
        · rename_i e5
          obtain ⟨h0, h1, hK⟩ := hp
          exact ⟨_, fun _ _ _ _ _ _ _ _ h => does_indexAddr hC h ho e1 e3 (by rw [e4, e5]) e2 h0 h1, hK⟩
        · cases hp
      · cases hp
    · cases hp
  · rename_i S x k ho
    split at hp
    · rename_i l cs e1 e2
      split at hp
      · rename_i p e3
        split at hp
        · rename_i l' e4
          split at hp
          · rename_i s e5; exact ⟨_, fun _ _ _ _ _ _ _ _ h => does_field hC h ho e1 e3 e4 e2 e5, hp⟩
          · cases hp
        · cases hp
      · cases hp
    · cases hp
  · rename_i x i ho
    split at hp
    · rename_i ps e1
      split at hp
      · rename_i p e2; exact ⟨_, fun _ _ _ _ _ _ _ _ h => does_extract h ho e1 e2, hp⟩
      · cases hp
    · cases hp
  · rename_i fn fs cap ho
    split at hp
    · rename_i f os e0 e1
      have : fs = #[] := Array.toList_eq_nil_iff.1 e0
      subst this
      exact ⟨_, fun _ _ _ _ _ _ _ _ h => does_makeFunc h ho e1, hp⟩
    · cases hp
  · rename_i T x y ho
    split at hp
    · rename_i s k i e1 e2 e3
      obtain ⟨h0, h1, hK⟩ := hp
      exact ⟨_, fun _ _ _ _ _ _ _ _ h => does_index hC h ho e1 e2 e3 h0 h1, hK⟩
    · cases hp
  · rename_i T x lo hi ho
    split at hp
    · rename_i s e1 e2
      split at hp
      · rename_i l u e3 e4
        obtain ⟨⟨h0, h1, h2⟩, hK⟩ := hp
        exact ⟨_, fun _ _ _ _ _ _ _ _ h => does_slice_str hC h ho e1 (val_of e2) e3 e4 h0 h1 h2, hK⟩
      · cases hp
    · rename_i E r n e1 e2
      split at hp
      · rename_i row u e3 e4
        split at hp
        · rename_i e5
          obtain ⟨⟨h0, h1⟩, hK⟩ := hp
          exact ⟨_, fun _ _ _ _ _ _ _ _ h => does_slice_pre hC h ho e2 e3 (by rw [e1, e5]) e4 h0 h1, hK⟩
        · cases hp
      · cases hp
    · cases hp
  · rename_i T parts ho
    split at hp
    · rename_i sz zs fs e1
      split at hp
      · rename_i cs e2; exact ⟨_, fun _ _ _ _ _ _ _ _ h => does_build hC h ho e1 e2, hp⟩
      · cases hp
    · cases hp
  · rename_i c ho
    obtain ⟨cal, as, ts⟩ := c
    dsimp only at hp
    split at hp
    · rename_i x T e1 e2
      have e1' : as = #[x] := Array.toList_inj.1 e1
      have e2' : ts = #[T] := Array.toList_inj.1 e2
      subst e1'; subst e2'
      obtain ⟨n, h1, h2⟩ := lenK_ok hC ho hp
      exact ⟨_, h1, h2⟩
    · rename_i b x y e1
      have e1' : as = #[x, y] := Array.toList_inj.1 e1
      subst e1'
      split at hp
      · rename_i u v e2 e3
        split at hp
        · rename_i r e4; exact ⟨_, fun _ _ _ _ _ _ _ _ h => does_mm h ho e2 e3 e4, hp⟩
        · cases hp
      · cases hp
    · cases hp
  · cases hp
end
end Go.Proofs.Ytjmhffbenbiieaa.Ev
