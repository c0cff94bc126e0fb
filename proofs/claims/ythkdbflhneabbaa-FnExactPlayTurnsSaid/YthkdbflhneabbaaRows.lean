/-
  No cell of these rows narrows 'for every input' (looked for: loops, veiled, ifaces, maps, wideKeys, modest, calm, conditions, laid).
  DERIVED. THE GIVEN ROWS OF THIS SEAT. 11 by the template 'for every input the law returns true; each argument reads behind the call as it read before'; 0 by the template 'total and deterministic' (their statements: YthkdbflhneabbaaTotals.lean).
  GIVEN WITH THE SEED: the statements are not yours to turn. If you find one false, say at which input.
  Laid BY PROGRAM, IN A SANDBOX (cutbox-rows.mjs): the forced cells as the released guide's own fill.sh prints them over the translation 1ac2d599f1379889… (all of the seat's roots in one cut). By AI agents, Wed Nov 11 2026. No macro, syntax, notation, axiom, sorry.
-/
import Derived.Test.YthkdbflhneabbaaChecked
import GoSem.Claim
import GoSem.ClaimJoined
import GoSem.ClaimMapViews
import Derived.JoinedTies
import Derived.KernelRfl
namespace Go.Proofs.Ythkdbflhneabbaa
/- THE CELL 'sum', in the pinned program and in every row, IS THE sha256 OF THE DUMP (.gsa) THAT YthkdbflhneabbaaProg.lean LOADS. Nothing in Lean hashes anything: it is a label: what it is worth is what the hold of that sum in a sandbox is worth. -/
noncomputable def Try.pinned : Pinned := { name := "ythkdbflhneabbaa", sum := "1ac2d599f13798895f355ebcc8869a4ea351ca07dde65dc1f05d0128d09f6d6b", checked := Try.checked }
namespace Rows
def none {H : Type} : Left H := { results := [], args := [] }

/-- 'laws.FnEven': WHATEVER THE INPUT: true; the input reads as it did. -/
def fnEvenSpec : ChangeSpec := { name := "fnEven", fn := fun _ => fun
  | [d] => { results := [.lit (.bool true)], args := [d] }
  | _ => none }
def fnEvenRow : OpenClaim := { program := "ythkdbflhneabbaa", sum := "1ac2d599f13798895f355ebcc8869a4ea351ca07dde65dc1f05d0128d09f6d6b", func := "loop.example/g00722/laws.FnEven", spec := "fnEven", apart := false }
def FnEvenSaid : Prop := fnEvenRow.holds Try.pinned (OpenSpec.ofChange fnEvenSpec)

/-- ITS FALSE NEIGHBOUR: 'it returns false'. Refute it at one input. -/
def fnEvenWrong : ChangeSpec := { name := "fnEven", fn := fun _ => fun
  | [d] => { results := [.lit (.bool false)], args := [d] }
  | _ => none }
def FnEvenWrongFalsely : Prop := fnEvenRow.holds Try.pinned (OpenSpec.ofChange fnEvenWrong)

/-- 'laws.FnExactHostsOk': WHATEVER THE INPUT: true; the input reads as it did. -/
def fnExactHostsOkSpec : ChangeSpec := { name := "fnExactHostsOk", fn := fun _ => fun
  | [d] => { results := [.lit (.bool true)], args := [d] }
  | _ => none }
def fnExactHostsOkRow : OpenClaim := { program := "ythkdbflhneabbaa", sum := "1ac2d599f13798895f355ebcc8869a4ea351ca07dde65dc1f05d0128d09f6d6b", func := "loop.example/g00722/laws.FnExactHostsOk", spec := "fnExactHostsOk", unfollowed := true, recurses := true, apart := false }
def FnExactHostsOkSaid : Prop := fnExactHostsOkRow.holds Try.pinned (OpenSpec.ofChange fnExactHostsOkSpec)

/-- ITS FALSE NEIGHBOUR: 'it returns false'. Refute it at one input. -/
def fnExactHostsOkWrong : ChangeSpec := { name := "fnExactHostsOk", fn := fun _ => fun
  | [d] => { results := [.lit (.bool false)], args := [d] }
  | _ => none }
def FnExactHostsOkWrongFalsely : Prop := fnExactHostsOkRow.holds Try.pinned (OpenSpec.ofChange fnExactHostsOkWrong)

/-- 'laws.FnExactLoadOfHosts': WHATEVER THE INPUT: true; the input reads as it did. -/
def fnExactLoadOfHostsSpec : ChangeSpec := { name := "fnExactLoadOfHosts", fn := fun _ => fun
  | [d] => { results := [.lit (.bool true)], args := [d] }
  | _ => none }
def fnExactLoadOfHostsRow : OpenClaim := { program := "ythkdbflhneabbaa", sum := "1ac2d599f13798895f355ebcc8869a4ea351ca07dde65dc1f05d0128d09f6d6b", func := "loop.example/g00722/laws.FnExactLoadOfHosts", spec := "fnExactLoadOfHosts", unfollowed := true, recurses := true, apart := false }
def FnExactLoadOfHostsSaid : Prop := fnExactLoadOfHostsRow.holds Try.pinned (OpenSpec.ofChange fnExactLoadOfHostsSpec)

/-- ITS FALSE NEIGHBOUR: 'it returns false'. Refute it at one input. -/
def fnExactLoadOfHostsWrong : ChangeSpec := { name := "fnExactLoadOfHosts", fn := fun _ => fun
  | [d] => { results := [.lit (.bool false)], args := [d] }
  | _ => none }
def FnExactLoadOfHostsWrongFalsely : Prop := fnExactLoadOfHostsRow.holds Try.pinned (OpenSpec.ofChange fnExactLoadOfHostsWrong)

/-- 'laws.FnExactLeastBusy': WHATEVER THE INPUT: true; the input reads as it did. -/
def fnExactLeastBusySpec : ChangeSpec := { name := "fnExactLeastBusy", fn := fun _ => fun
  | [d] => { results := [.lit (.bool true)], args := [d] }
  | _ => none }
def fnExactLeastBusyRow : OpenClaim := { program := "ythkdbflhneabbaa", sum := "1ac2d599f13798895f355ebcc8869a4ea351ca07dde65dc1f05d0128d09f6d6b", func := "loop.example/g00722/laws.FnExactLeastBusy", spec := "fnExactLeastBusy", unfollowed := true, recurses := true, apart := false }
def FnExactLeastBusySaid : Prop := fnExactLeastBusyRow.holds Try.pinned (OpenSpec.ofChange fnExactLeastBusySpec)

/-- ITS FALSE NEIGHBOUR: 'it returns false'. Refute it at one input. -/
def fnExactLeastBusyWrong : ChangeSpec := { name := "fnExactLeastBusy", fn := fun _ => fun
  | [d] => { results := [.lit (.bool false)], args := [d] }
  | _ => none }
def FnExactLeastBusyWrongFalsely : Prop := fnExactLeastBusyRow.holds Try.pinned (OpenSpec.ofChange fnExactLeastBusyWrong)

/-- 'laws.FnLeast': WHATEVER THE INPUT: true; the input reads as it did. -/
def fnLeastSpec : ChangeSpec := { name := "fnLeast", fn := fun _ => fun
  | [d] => { results := [.lit (.bool true)], args := [d] }
  | _ => none }
def fnLeastRow : OpenClaim := { program := "ythkdbflhneabbaa", sum := "1ac2d599f13798895f355ebcc8869a4ea351ca07dde65dc1f05d0128d09f6d6b", func := "loop.example/g00722/laws.FnLeast", spec := "fnLeast", unfollowed := true, recurses := true, apart := false }
def FnLeastSaid : Prop := fnLeastRow.holds Try.pinned (OpenSpec.ofChange fnLeastSpec)

/-- ITS FALSE NEIGHBOUR: 'it returns false'. Refute it at one input. -/
def fnLeastWrong : ChangeSpec := { name := "fnLeast", fn := fun _ => fun
  | [d] => { results := [.lit (.bool false)], args := [d] }
  | _ => none }
def FnLeastWrongFalsely : Prop := fnLeastRow.holds Try.pinned (OpenSpec.ofChange fnLeastWrong)

/-- 'laws.FnExactGiveHost': WHATEVER THE INPUT: true; the input reads as it did. -/
def fnExactGiveHostSpec : ChangeSpec := { name := "fnExactGiveHost", fn := fun _ => fun
  | [d1, d2] => { results := [.lit (.bool true)], args := [d1, d2] }
  | _ => none }
def fnExactGiveHostRow : OpenClaim := { program := "ythkdbflhneabbaa", sum := "1ac2d599f13798895f355ebcc8869a4ea351ca07dde65dc1f05d0128d09f6d6b", func := "loop.example/g00722/laws.FnExactGiveHost", spec := "fnExactGiveHost", unfollowed := true, recurses := true, apart := false }
def FnExactGiveHostSaid : Prop := fnExactGiveHostRow.holds Try.pinned (OpenSpec.ofChange fnExactGiveHostSpec)

/-- ITS FALSE NEIGHBOUR: 'it returns false'. Refute it at one input. -/
def fnExactGiveHostWrong : ChangeSpec := { name := "fnExactGiveHost", fn := fun _ => fun
  | [d1, d2] => { results := [.lit (.bool false)], args := [d1, d2] }
  | _ => none }
def FnExactGiveHostWrongFalsely : Prop := fnExactGiveHostRow.holds Try.pinned (OpenSpec.ofChange fnExactGiveHostWrong)

/-- 'laws.FnExactSetDown': WHATEVER THE INPUT: true; the input reads as it did. -/
def fnExactSetDownSpec : ChangeSpec := { name := "fnExactSetDown", fn := fun _ => fun
  | [d1, d2, d3] => { results := [.lit (.bool true)], args := [d1, d2, d3] }
  | _ => none }
def fnExactSetDownRow : OpenClaim := { program := "ythkdbflhneabbaa", sum := "1ac2d599f13798895f355ebcc8869a4ea351ca07dde65dc1f05d0128d09f6d6b", func := "loop.example/g00722/laws.FnExactSetDown", spec := "fnExactSetDown", unfollowed := true, recurses := true, apart := false }
def FnExactSetDownSaid : Prop := fnExactSetDownRow.holds Try.pinned (OpenSpec.ofChange fnExactSetDownSpec)

/-- ITS FALSE NEIGHBOUR: 'it returns false'. Refute it at one input. -/
def fnExactSetDownWrong : ChangeSpec := { name := "fnExactSetDown", fn := fun _ => fun
  | [d1, d2, d3] => { results := [.lit (.bool false)], args := [d1, d2, d3] }
  | _ => none }
def FnExactSetDownWrongFalsely : Prop := fnExactSetDownRow.holds Try.pinned (OpenSpec.ofChange fnExactSetDownWrong)

/-- 'laws.FnExactTakeHost': WHATEVER THE INPUT: true; the input reads as it did. -/
def fnExactTakeHostSpec : ChangeSpec := { name := "fnExactTakeHost", fn := fun _ => fun
  | [d1, d2] => { results := [.lit (.bool true)], args := [d1, d2] }
  | _ => none }
def fnExactTakeHostRow : OpenClaim := { program := "ythkdbflhneabbaa", sum := "1ac2d599f13798895f355ebcc8869a4ea351ca07dde65dc1f05d0128d09f6d6b", func := "loop.example/g00722/laws.FnExactTakeHost", spec := "fnExactTakeHost", unfollowed := true, recurses := true, apart := false }
def FnExactTakeHostSaid : Prop := fnExactTakeHostRow.holds Try.pinned (OpenSpec.ofChange fnExactTakeHostSpec)

/-- ITS FALSE NEIGHBOUR: 'it returns false'. Refute it at one input. -/
def fnExactTakeHostWrong : ChangeSpec := { name := "fnExactTakeHost", fn := fun _ => fun
  | [d1, d2] => { results := [.lit (.bool false)], args := [d1, d2] }
  | _ => none }
def FnExactTakeHostWrongFalsely : Prop := fnExactTakeHostRow.holds Try.pinned (OpenSpec.ofChange fnExactTakeHostWrong)

/-- 'laws.FnExactNextTurn': WHATEVER THE INPUT: true; the input reads as it did. -/
def fnExactNextTurnSpec : ChangeSpec := { name := "fnExactNextTurn", fn := fun _ => fun
  | [d1, d2] => { results := [.lit (.bool true)], args := [d1, d2] }
  | _ => none }
def fnExactNextTurnRow : OpenClaim := { program := "ythkdbflhneabbaa", sum := "1ac2d599f13798895f355ebcc8869a4ea351ca07dde65dc1f05d0128d09f6d6b", func := "loop.example/g00722/laws.FnExactNextTurn", spec := "fnExactNextTurn", unfollowed := true, recurses := true, apart := false }
def FnExactNextTurnSaid : Prop := fnExactNextTurnRow.holds Try.pinned (OpenSpec.ofChange fnExactNextTurnSpec)

/-- ITS FALSE NEIGHBOUR: 'it returns false'. Refute it at one input. -/
def fnExactNextTurnWrong : ChangeSpec := { name := "fnExactNextTurn", fn := fun _ => fun
  | [d1, d2] => { results := [.lit (.bool false)], args := [d1, d2] }
  | _ => none }
def FnExactNextTurnWrongFalsely : Prop := fnExactNextTurnRow.holds Try.pinned (OpenSpec.ofChange fnExactNextTurnWrong)

/-- 'laws.FnTurns': WHATEVER THE INPUT: true; the input reads as it did. -/
def fnTurnsSpec : ChangeSpec := { name := "fnTurns", fn := fun _ => fun
  | [d] => { results := [.lit (.bool true)], args := [d] }
  | _ => none }
def fnTurnsRow : OpenClaim := { program := "ythkdbflhneabbaa", sum := "1ac2d599f13798895f355ebcc8869a4ea351ca07dde65dc1f05d0128d09f6d6b", func := "loop.example/g00722/laws.FnTurns", spec := "fnTurns", unfollowed := true, recurses := true, apart := false }
def FnTurnsSaid : Prop := fnTurnsRow.holds Try.pinned (OpenSpec.ofChange fnTurnsSpec)

/-- ITS FALSE NEIGHBOUR: 'it returns false'. Refute it at one input. -/
def fnTurnsWrong : ChangeSpec := { name := "fnTurns", fn := fun _ => fun
  | [d] => { results := [.lit (.bool false)], args := [d] }
  | _ => none }
def FnTurnsWrongFalsely : Prop := fnTurnsRow.holds Try.pinned (OpenSpec.ofChange fnTurnsWrong)

/-- 'laws.FnExactPlayTurns': WHATEVER THE INPUT: true; the input reads as it did. -/
def fnExactPlayTurnsSpec : ChangeSpec := { name := "fnExactPlayTurns", fn := fun _ => fun
  | [d1, d2] => { results := [.lit (.bool true)], args := [d1, d2] }
  | _ => none }
def fnExactPlayTurnsRow : OpenClaim := { program := "ythkdbflhneabbaa", sum := "1ac2d599f13798895f355ebcc8869a4ea351ca07dde65dc1f05d0128d09f6d6b", func := "loop.example/g00722/laws.FnExactPlayTurns", spec := "fnExactPlayTurns", unfollowed := true, recurses := true, apart := false }
def FnExactPlayTurnsSaid : Prop := fnExactPlayTurnsRow.holds Try.pinned (OpenSpec.ofChange fnExactPlayTurnsSpec)

/-- ITS FALSE NEIGHBOUR: 'it returns false'. Refute it at one input. -/
def fnExactPlayTurnsWrong : ChangeSpec := { name := "fnExactPlayTurns", fn := fun _ => fun
  | [d1, d2] => { results := [.lit (.bool false)], args := [d1, d2] }
  | _ => none }
def FnExactPlayTurnsWrongFalsely : Prop := fnExactPlayTurnsRow.holds Try.pinned (OpenSpec.ofChange fnExactPlayTurnsWrong)

/- THE SECOND FORM. 'bulk': how many values and letters a reading holds, each counted each time it is reached (what is shared counts as often as it is met; a slice's spare places count too). A statement '..UptoSaid' is the law's where the arguments, and the package variables that the reading takes, are together of bulk at most 1048576: NARROWER than '..Said'. Prove '..Said' where nothing that the law and all that it calls make is longer than what came in: it says more and counts as full. Else prove '..UptoSaid'. A law counts once. -/
mutual
def uptoBulk {H : Type} : DataW H → Nat
  | .lit (.string bytes) => bytes.length + 1
  | .lit _ => 1
  | .nil => 1
  | .ptr d => uptoBulk d + 1
  | .slice elems spare => uptoBulkAll elems + uptoBulkAll spare + 1
  | .agg parts => uptoBulkAll parts + 1
  | .iface _ d => uptoBulk d + 1
  | .map entries => uptoBulkEntries entries + 1
  | .held _ => 1
def uptoBulkAll {H : Type} : List (DataW H) → Nat
  | [] => 0
  | d :: r => uptoBulk d + uptoBulkAll r
def uptoBulkEntries {H : Type} : List (Lit × DataW H) → Nat
  | [] => 0
  | x :: r => uptoBulkEntry x + uptoBulkEntries r
def uptoBulkEntry {H : Type} : Lit × DataW H → Nat
  | (.string bytes, d) => bytes.length + uptoBulk d + 1
  | (_, d) => uptoBulk d + 1
 end
def uptoSmall : (H : Type) → List (DataW H) → Bool := fun _ ds => decide (uptoBulkAll ds ≤ 1048576)
def OpenSpec.upto (s : _root_.Go.ChangeSpec) : _root_.Go.OpenSpec := { _root_.Go.OpenSpec.ofChange s with cond := some uptoSmall }

/-- 'laws.FnEven', WHERE WHAT IT READS IS OF BULK AT MOST 1048576: true; the input reads as it did. -/
def fnEvenUptoRow : OpenClaim := { program := "ythkdbflhneabbaa", sum := "1ac2d599f13798895f355ebcc8869a4ea351ca07dde65dc1f05d0128d09f6d6b", func := "loop.example/g00722/laws.FnEven", spec := "fnEven", apart := false, narrowed := true }
def FnEvenUptoSaid : Prop := fnEvenUptoRow.holds Try.pinned (OpenSpec.upto fnEvenSpec)

/-- 'laws.FnExactHostsOk', WHERE WHAT IT READS IS OF BULK AT MOST 1048576: true; the input reads as it did. -/
def fnExactHostsOkUptoRow : OpenClaim := { program := "ythkdbflhneabbaa", sum := "1ac2d599f13798895f355ebcc8869a4ea351ca07dde65dc1f05d0128d09f6d6b", func := "loop.example/g00722/laws.FnExactHostsOk", spec := "fnExactHostsOk", unfollowed := true, recurses := true, apart := false, narrowed := true }
def FnExactHostsOkUptoSaid : Prop := fnExactHostsOkUptoRow.holds Try.pinned (OpenSpec.upto fnExactHostsOkSpec)

/-- 'laws.FnExactLoadOfHosts', WHERE WHAT IT READS IS OF BULK AT MOST 1048576: true; the input reads as it did. -/
def fnExactLoadOfHostsUptoRow : OpenClaim := { program := "ythkdbflhneabbaa", sum := "1ac2d599f13798895f355ebcc8869a4ea351ca07dde65dc1f05d0128d09f6d6b", func := "loop.example/g00722/laws.FnExactLoadOfHosts", spec := "fnExactLoadOfHosts", unfollowed := true, recurses := true, apart := false, narrowed := true }
def FnExactLoadOfHostsUptoSaid : Prop := fnExactLoadOfHostsUptoRow.holds Try.pinned (OpenSpec.upto fnExactLoadOfHostsSpec)

/-- 'laws.FnExactLeastBusy', WHERE WHAT IT READS IS OF BULK AT MOST 1048576: true; the input reads as it did. -/
def fnExactLeastBusyUptoRow : OpenClaim := { program := "ythkdbflhneabbaa", sum := "1ac2d599f13798895f355ebcc8869a4ea351ca07dde65dc1f05d0128d09f6d6b", func := "loop.example/g00722/laws.FnExactLeastBusy", spec := "fnExactLeastBusy", unfollowed := true, recurses := true, apart := false, narrowed := true }
def FnExactLeastBusyUptoSaid : Prop := fnExactLeastBusyUptoRow.holds Try.pinned (OpenSpec.upto fnExactLeastBusySpec)

/-- 'laws.FnLeast', WHERE WHAT IT READS IS OF BULK AT MOST 1048576: true; the input reads as it did. -/
def fnLeastUptoRow : OpenClaim := { program := "ythkdbflhneabbaa", sum := "1ac2d599f13798895f355ebcc8869a4ea351ca07dde65dc1f05d0128d09f6d6b", func := "loop.example/g00722/laws.FnLeast", spec := "fnLeast", unfollowed := true, recurses := true, apart := false, narrowed := true }
def FnLeastUptoSaid : Prop := fnLeastUptoRow.holds Try.pinned (OpenSpec.upto fnLeastSpec)

/-- 'laws.FnExactGiveHost', WHERE WHAT IT READS IS OF BULK AT MOST 1048576: true; the input reads as it did. -/
def fnExactGiveHostUptoRow : OpenClaim := { program := "ythkdbflhneabbaa", sum := "1ac2d599f13798895f355ebcc8869a4ea351ca07dde65dc1f05d0128d09f6d6b", func := "loop.example/g00722/laws.FnExactGiveHost", spec := "fnExactGiveHost", unfollowed := true, recurses := true, apart := false, narrowed := true }
def FnExactGiveHostUptoSaid : Prop := fnExactGiveHostUptoRow.holds Try.pinned (OpenSpec.upto fnExactGiveHostSpec)

/-- 'laws.FnExactSetDown', WHERE WHAT IT READS IS OF BULK AT MOST 1048576: true; the input reads as it did. -/
def fnExactSetDownUptoRow : OpenClaim := { program := "ythkdbflhneabbaa", sum := "1ac2d599f13798895f355ebcc8869a4ea351ca07dde65dc1f05d0128d09f6d6b", func := "loop.example/g00722/laws.FnExactSetDown", spec := "fnExactSetDown", unfollowed := true, recurses := true, apart := false, narrowed := true }
def FnExactSetDownUptoSaid : Prop := fnExactSetDownUptoRow.holds Try.pinned (OpenSpec.upto fnExactSetDownSpec)

/-- 'laws.FnExactTakeHost', WHERE WHAT IT READS IS OF BULK AT MOST 1048576: true; the input reads as it did. -/
def fnExactTakeHostUptoRow : OpenClaim := { program := "ythkdbflhneabbaa", sum := "1ac2d599f13798895f355ebcc8869a4ea351ca07dde65dc1f05d0128d09f6d6b", func := "loop.example/g00722/laws.FnExactTakeHost", spec := "fnExactTakeHost", unfollowed := true, recurses := true, apart := false, narrowed := true }
def FnExactTakeHostUptoSaid : Prop := fnExactTakeHostUptoRow.holds Try.pinned (OpenSpec.upto fnExactTakeHostSpec)

/-- 'laws.FnExactNextTurn', WHERE WHAT IT READS IS OF BULK AT MOST 1048576: true; the input reads as it did. -/
def fnExactNextTurnUptoRow : OpenClaim := { program := "ythkdbflhneabbaa", sum := "1ac2d599f13798895f355ebcc8869a4ea351ca07dde65dc1f05d0128d09f6d6b", func := "loop.example/g00722/laws.FnExactNextTurn", spec := "fnExactNextTurn", unfollowed := true, recurses := true, apart := false, narrowed := true }
def FnExactNextTurnUptoSaid : Prop := fnExactNextTurnUptoRow.holds Try.pinned (OpenSpec.upto fnExactNextTurnSpec)

/-- 'laws.FnTurns', WHERE WHAT IT READS IS OF BULK AT MOST 1048576: true; the input reads as it did. -/
def fnTurnsUptoRow : OpenClaim := { program := "ythkdbflhneabbaa", sum := "1ac2d599f13798895f355ebcc8869a4ea351ca07dde65dc1f05d0128d09f6d6b", func := "loop.example/g00722/laws.FnTurns", spec := "fnTurns", unfollowed := true, recurses := true, apart := false, narrowed := true }
def FnTurnsUptoSaid : Prop := fnTurnsUptoRow.holds Try.pinned (OpenSpec.upto fnTurnsSpec)

/-- 'laws.FnExactPlayTurns', WHERE WHAT IT READS IS OF BULK AT MOST 1048576: true; the input reads as it did. -/
def fnExactPlayTurnsUptoRow : OpenClaim := { program := "ythkdbflhneabbaa", sum := "1ac2d599f13798895f355ebcc8869a4ea351ca07dde65dc1f05d0128d09f6d6b", func := "loop.example/g00722/laws.FnExactPlayTurns", spec := "fnExactPlayTurns", unfollowed := true, recurses := true, apart := false, narrowed := true }
def FnExactPlayTurnsUptoSaid : Prop := fnExactPlayTurnsUptoRow.holds Try.pinned (OpenSpec.upto fnExactPlayTurnsSpec)

end Rows
end Go.Proofs.Ythkdbflhneabbaa
