import Derived.Test.YtjmhffbenbiieaaProg
import Derived.Test.YtjmhffbenbiieaaEv23
set_option linter.unusedVariables false
set_option linter.unusedSimpArgs false
namespace Go.Proofs.Ytjmhffbenbiieaa.Ev
open Go.RowKit

structure HostV where
  name : ByteArray
  weight : Int
  busy : Int
  room : Int
  down : Bool
abbrev elInt : El := ⟨Int, 3, 1, 8, 0, fun x => [.int .i64 x], fun cs => match cs with
  | [.int .i64 x] => some x
  | _ => none⟩
abbrev elByte : El := ⟨Int, 5, 1, 1, 0, fun x => [.int .u8 x], fun cs => match cs with
  | [.int .u8 x] => some x
  | _ => none⟩
abbrev elHost : El := ⟨HostV, 41, 5, 48, ⟨⟨#[]⟩, 0, 0, 0, false⟩, fun h => [.string h.name, .int .i64 h.weight, .int .i64 h.busy, .int .i64 h.room, .bool h.down], fun cs => match cs with
  | [.string a0, .int .i64 a1, .int .i64 a2, .int .i64 a3, .bool a4] => some ⟨a0, a1, a2, a3, a4⟩
  | _ => none⟩
abbrev elHostL : El := ⟨HostV, 39, 5, 48, ⟨⟨#[]⟩, 0, 0, 0, false⟩, fun h => [.string h.name, .int .i64 h.weight, .int .i64 h.busy, .int .i64 h.room, .bool h.down], fun cs => match cs with
  | [.string a0, .int .i64 a1, .int .i64 a2, .int .i64 a3, .bool a4] => some ⟨a0, a1, a2, a3, a4⟩
  | _ => none⟩
def tLay : List (Nat × Lay) := [(3, .sc (.int .i64 0)), (4, .sc (.bool false)), (5, .sc (.int .u8 0)), (9, .str), (57, .sl 5), (24, .sl 3), (26, .sl 41), (22, .sl 39), (41, .st 5 [.string ⟨#[]⟩, .int .i64 0, .int .i64 0, .int .i64 0, .bool false] [(0, 9), (1, 3), (2, 3), (3, 3), (4, 4)]), (39, .st 5 [.string ⟨#[]⟩, .int .i64 0, .int .i64 0, .int .i64 0, .bool false] [(0, 9), (1, 3), (2, 3), (3, 3), (4, 4)])]
def tEl : List (Nat × El) := [(3, elInt), (5, elByte), (41, elHost), (39, elHostL)]
def tIk : List (Nat × IntKind) := [(3, .i64), (5, .u8)]
def tRd : List Nat := []
def tMu : List (Nat × List Nat) := [(48, [0]), (50, [0]), (52, [0]), (11, [0]), (12, [0])]
noncomputable def cx : Cx := ⟨Try.prog, look tLay, look tEl, look tIk, fun t => Nat.beq t 4, fun f => (look tMu f).getD [], fun f => memB tRd f, 0, fun _ => True⟩

theorem sc_ok {t : Nat} {z : Value} {d : TypeDesc} {i : TypeInfo} (h0 : z.oneCell' = true) (h1 : Try.prog.underlying t = some d) (h2 : ∀ fs, d ≠ .struct fs) (h3 : ∀ n e, d ≠ .array n e) (h4 : Try.prog.info? t = some i) (h5 : i.size = 1) (h6 : i.zero = some z) : LayOk1 Try.prog t (.sc z) := ⟨h0, d, i, h1, h2, h3, h4, h5, h6⟩
theorem tLay_ok : ∀ p ∈ tLay, LayOk1 Try.prog p.1 p.2 := by
  intro p hp
  simp only [tLay, List.mem_cons, List.not_mem_nil, or_false] at hp
  rcases hp with rfl | rfl | rfl | rfl | rfl | rfl | rfl | rfl | rfl | rfl
  · exact sc_ok rfl (d := .int .i64) rfl (by simp) (by simp) rfl rfl rfl
  · exact sc_ok rfl (d := .bool) rfl (by simp) (by simp) rfl rfl rfl
  · exact sc_ok rfl (d := .int .u8) rfl (by simp) (by simp) rfl rfl rfl
  · exact ⟨rfl, _, rfl, rfl, rfl⟩
  · exact ⟨rfl, _, rfl, rfl, rfl⟩
  · exact ⟨rfl, _, rfl, rfl, rfl⟩
  · exact ⟨rfl, _, rfl, rfl, rfl⟩
  · exact ⟨rfl, _, rfl, rfl, rfl⟩
  · refine ⟨_, _, rfl, rfl, rfl, rfl, rfl, rfl, ?_⟩
    intro k p hk
    match k, hk with
    | 0, hk => injection hk with hk; subst hk; exact ⟨_, _, rfl, rfl, rfl, rfl, by decide⟩
    | 1, hk => injection hk with hk; subst hk; exact ⟨_, _, rfl, rfl, rfl, rfl, by decide⟩
    | 2, hk => injection hk with hk; subst hk; exact ⟨_, _, rfl, rfl, rfl, rfl, by decide⟩
    | 3, hk => injection hk with hk; subst hk; exact ⟨_, _, rfl, rfl, rfl, rfl, by decide⟩
    | 4, hk => injection hk with hk; subst hk; exact ⟨_, _, rfl, rfl, rfl, rfl, by decide⟩
    | k + 5, hk => cases hk
  · refine ⟨_, _, rfl, rfl, rfl, rfl, rfl, rfl, ?_⟩
    intro k p hk
    match k, hk with
    | 0, hk => injection hk with hk; subst hk; exact ⟨_, _, rfl, rfl, rfl, rfl, by decide⟩
    | 1, hk => injection hk with hk; subst hk; exact ⟨_, _, rfl, rfl, rfl, rfl, by decide⟩
    | 2, hk => injection hk with hk; subst hk; exact ⟨_, _, rfl, rfl, rfl, rfl, by decide⟩
    | 3, hk => injection hk with hk; subst hk; exact ⟨_, _, rfl, rfl, rfl, rfl, by decide⟩
    | 4, hk => injection hk with hk; subst hk; exact ⟨_, _, rfl, rfl, rfl, rfl, by decide⟩
    | k + 5, hk => cases hk
theorem elInt_ok : elInt.Ok Try.prog := by
  refine ⟨fun x => rfl, by decide, by decide, fun x v hv => ?_, fun cs x h => ?_, _, _, rfl, rfl, rfl, rfl, rfl⟩
  · simp only [elInt, List.mem_cons, List.not_mem_nil, or_false] at hv; subst hv; rfl
  · simp only [elInt] at h ⊢; split at h
    · injection h with h; subst h; rfl
    · cases h
theorem elByte_ok : elByte.Ok Try.prog := by
  refine ⟨fun x => rfl, by decide, by decide, fun x v hv => ?_, fun cs x h => ?_, _, _, rfl, rfl, rfl, rfl, rfl⟩
  · simp only [elByte, List.mem_cons, List.not_mem_nil, or_false] at hv; subst hv; rfl
  · simp only [elByte] at h ⊢; split at h
    · injection h with h; subst h; rfl
    · cases h
theorem elHost_ok : elHost.Ok Try.prog := by
  refine ⟨fun x => rfl, by decide, by decide, fun x v hv => ?_, fun cs x h => ?_, _, _, rfl, rfl, rfl, rfl, rfl⟩
  · simp only [elHost, List.mem_cons, List.not_mem_nil, or_false] at hv; rcases hv with rfl | rfl | rfl | rfl | rfl <;> rfl
  · simp only [elHost] at h ⊢; split at h
    · injection h with h; subst h; rfl
    · cases h
theorem elHostL_ok : elHostL.Ok Try.prog := by
  refine ⟨fun x => rfl, by decide, by decide, fun x v hv => ?_, fun cs x h => ?_, _, _, rfl, rfl, rfl, rfl, rfl⟩
  · simp only [elHostL, List.mem_cons, List.not_mem_nil, or_false] at hv; rcases hv with rfl | rfl | rfl | rfl | rfl <;> rfl
  · simp only [elHostL] at h ⊢; split at h
    · injection h with h; subst h; rfl
    · cases h
theorem tEl_ok : ∀ p ∈ tEl, p.2.Ok Try.prog ∧ p.2.T = p.1 := by
  intro p hp
  simp only [tEl, List.mem_cons, List.not_mem_nil, or_false] at hp
  rcases hp with rfl | rfl | rfl | rfl
  · exact ⟨elInt_ok, rfl⟩
  · exact ⟨elByte_ok, rfl⟩
  · exact ⟨elHost_ok, rfl⟩
  · exact ⟨elHostL_ok, rfl⟩
theorem tIk_ok : ∀ p ∈ tIk, Try.prog.underlying p.1 = some (.int p.2) := by
  intro p hp
  simp only [tIk, List.mem_cons, List.not_mem_nil, or_false] at hp
  rcases hp with rfl | rfl <;> rfl
theorem cx_ok : cx.Ok where
  lay := fun t l h => tLay_ok (t, l) (look_mem h)
  el := fun t e h => tEl_ok (t, e) (look_mem h)
  ik := fun t k h => tIk_ok (t, k) (look_mem h)
  bt := fun t h => by have := Nat.eq_of_beq_eq_true h; subst this; rfl
  stab := fun _ _ _ _ => trivial
  gle := fun _ _ => Nat.zero_le _
theorem cx_mix : cx.P.follows .mixedOrders = true := by kernel_rfl
end Go.Proofs.Ytjmhffbenbiieaa.Ev
