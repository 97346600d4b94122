/-
  No cell of these rows narrows 'for every input' (looked for: loops, veiled, ifaces, maps, wideKeys, modest, calm, conditions, laid).
  DERIVED. THE GIVEN ROWS OF THIS SEAT. 6 by the template 'for every input the law returns true; each argument reads behind the call as it read before'; 0 by the template 'total and deterministic' (their statements: YtbfhlneijbdoiaaTotals.lean).
  GIVEN WITH THE SEED: the statements are not yours to turn. If you find one false, say at which input.
  Laid BY PROGRAM, IN A SANDBOX (cutbox-rows.mjs): the forced cells as the released guide's own fill.sh prints them over the translation 68893c0183a8bafc… (all of the seat's roots in one cut). By AI agents, Wed Nov 11 2026. No macro, syntax, notation, axiom, sorry.
-/
import Derived.Test.YtbfhlneijbdoiaaChecked
import GoSem.Claim
import GoSem.ClaimJoined
import GoSem.ClaimMapViews
import Derived.JoinedTies
import Derived.KernelRfl
namespace Go.Proofs.Ytbfhlneijbdoiaa
/- THE CELL 'sum', in the pinned program and in every row, IS THE sha256 OF THE DUMP (.gsa) THAT YtbfhlneijbdoiaaProg.lean LOADS. Nothing in Lean hashes anything: it is a label: what it is worth is what the hold of that sum in a sandbox is worth. -/
noncomputable def Try.pinned : Pinned := { name := "ytbfhlneijbdoiaa", sum := "68893c0183a8bafc7bf179340a09b8e61b6047e9ec992ff148481de7be1e50dc", checked := Try.checked }
namespace Rows
def none {H : Type} : Left H := { results := [], args := [] }

/-- 'clockworklaw40.NetworkGroups': WHATEVER THE INPUT: true; the input reads as it did. -/
def networkGroupsSpec : ChangeSpec := { name := "networkGroups", fn := fun _ => fun
  | [d1, d2] => { results := [.lit (.bool true)], args := [d1, d2] }
  | _ => none }
def networkGroupsRow : OpenClaim := { program := "ytbfhlneijbdoiaa", sum := "68893c0183a8bafc7bf179340a09b8e61b6047e9ec992ff148481de7be1e50dc", func := "clockwork/clockworklaw40.NetworkGroups", spec := "networkGroups", apart := false }
def NetworkGroupsSaid : Prop := networkGroupsRow.holds Try.pinned (OpenSpec.ofChange networkGroupsSpec)

/-- ITS FALSE NEIGHBOUR: 'it returns false'. Refute it at one input. -/
def networkGroupsWrong : ChangeSpec := { name := "networkGroups", fn := fun _ => fun
  | [d1, d2] => { results := [.lit (.bool false)], args := [d1, d2] }
  | _ => none }
def NetworkGroupsWrongFalsely : Prop := networkGroupsRow.holds Try.pinned (OpenSpec.ofChange networkGroupsWrong)

/-- 'clockworklaw40.NetworkValid': WHATEVER THE INPUT: true; the input reads as it did. -/
def networkValidSpec : ChangeSpec := { name := "networkValid", fn := fun _ => fun
  | [d1, d2, d3] => { results := [.lit (.bool true)], args := [d1, d2, d3] }
  | _ => none }
def networkValidRow : OpenClaim := { program := "ytbfhlneijbdoiaa", sum := "68893c0183a8bafc7bf179340a09b8e61b6047e9ec992ff148481de7be1e50dc", func := "clockwork/clockworklaw40.NetworkValid", spec := "networkValid", apart := false }
def NetworkValidSaid : Prop := networkValidRow.holds Try.pinned (OpenSpec.ofChange networkValidSpec)

/-- ITS FALSE NEIGHBOUR: 'it returns false'. Refute it at one input. -/
def networkValidWrong : ChangeSpec := { name := "networkValid", fn := fun _ => fun
  | [d1, d2, d3] => { results := [.lit (.bool false)], args := [d1, d2, d3] }
  | _ => none }
def NetworkValidWrongFalsely : Prop := networkValidRow.holds Try.pinned (OpenSpec.ofChange networkValidWrong)

/-- 'clockworklaw40.NetworkKeeps': WHATEVER THE INPUT: true; the input reads as it did. -/
def networkKeepsSpec : ChangeSpec := { name := "networkKeeps", fn := fun _ => fun
  | [d1, d2] => { results := [.lit (.bool true)], args := [d1, d2] }
  | _ => none }
def networkKeepsRow : OpenClaim := { program := "ytbfhlneijbdoiaa", sum := "68893c0183a8bafc7bf179340a09b8e61b6047e9ec992ff148481de7be1e50dc", func := "clockwork/clockworklaw40.NetworkKeeps", spec := "networkKeeps", apart := false }
def NetworkKeepsSaid : Prop := networkKeepsRow.holds Try.pinned (OpenSpec.ofChange networkKeepsSpec)

/-- ITS FALSE NEIGHBOUR: 'it returns false'. Refute it at one input. -/
def networkKeepsWrong : ChangeSpec := { name := "networkKeeps", fn := fun _ => fun
  | [d1, d2] => { results := [.lit (.bool false)], args := [d1, d2] }
  | _ => none }
def NetworkKeepsWrongFalsely : Prop := networkKeepsRow.holds Try.pinned (OpenSpec.ofChange networkKeepsWrong)

/-- 'clockworklaw40.NetworkSends': WHATEVER THE INPUT: true; the input reads as it did. -/
def networkSendsSpec : ChangeSpec := { name := "networkSends", fn := fun _ => fun
  | [d1, d2, d3] => { results := [.lit (.bool true)], args := [d1, d2, d3] }
  | _ => none }
def networkSendsRow : OpenClaim := { program := "ytbfhlneijbdoiaa", sum := "68893c0183a8bafc7bf179340a09b8e61b6047e9ec992ff148481de7be1e50dc", func := "clockwork/clockworklaw40.NetworkSends", spec := "networkSends", apart := false }
def NetworkSendsSaid : Prop := networkSendsRow.holds Try.pinned (OpenSpec.ofChange networkSendsSpec)

/-- ITS FALSE NEIGHBOUR: 'it returns false'. Refute it at one input. -/
def networkSendsWrong : ChangeSpec := { name := "networkSends", fn := fun _ => fun
  | [d1, d2, d3] => { results := [.lit (.bool false)], args := [d1, d2, d3] }
  | _ => none }
def NetworkSendsWrongFalsely : Prop := networkSendsRow.holds Try.pinned (OpenSpec.ofChange networkSendsWrong)

/-- 'clockworklaw40.NetworkCodes': WHATEVER THE INPUT: true; the input reads as it did. -/
def networkCodesSpec : ChangeSpec := { name := "networkCodes", fn := fun _ => fun
  | [d1, d2] => { results := [.lit (.bool true)], args := [d1, d2] }
  | _ => none }
def networkCodesRow : OpenClaim := { program := "ytbfhlneijbdoiaa", sum := "68893c0183a8bafc7bf179340a09b8e61b6047e9ec992ff148481de7be1e50dc", func := "clockwork/clockworklaw40.NetworkCodes", spec := "networkCodes", inPlace := ["internal/abi.NoEscape"], apart := false }
def NetworkCodesSaid : Prop := networkCodesRow.holds Try.pinned (OpenSpec.ofChange networkCodesSpec)

/-- ITS FALSE NEIGHBOUR: 'it returns false'. Refute it at one input. -/
def networkCodesWrong : ChangeSpec := { name := "networkCodes", fn := fun _ => fun
  | [d1, d2] => { results := [.lit (.bool false)], args := [d1, d2] }
  | _ => none }
def NetworkCodesWrongFalsely : Prop := networkCodesRow.holds Try.pinned (OpenSpec.ofChange networkCodesWrong)

/-- 'clockworklaw40.NetworkRoundTrips': WHATEVER THE INPUT: true; the input reads as it did. -/
def networkRoundTripsSpec : ChangeSpec := { name := "networkRoundTrips", fn := fun _ => fun
  | [d1, d2] => { results := [.lit (.bool true)], args := [d1, d2] }
  | _ => none }
def networkRoundTripsRow : OpenClaim := { program := "ytbfhlneijbdoiaa", sum := "68893c0183a8bafc7bf179340a09b8e61b6047e9ec992ff148481de7be1e50dc", func := "clockwork/clockworklaw40.NetworkRoundTrips", spec := "networkRoundTrips", inPlace := ["internal/abi.NoEscape"], apart := false }
def NetworkRoundTripsSaid : Prop := networkRoundTripsRow.holds Try.pinned (OpenSpec.ofChange networkRoundTripsSpec)

/-- ITS FALSE NEIGHBOUR: 'it returns false'. Refute it at one input. -/
def networkRoundTripsWrong : ChangeSpec := { name := "networkRoundTrips", fn := fun _ => fun
  | [d1, d2] => { results := [.lit (.bool false)], args := [d1, d2] }
  | _ => none }
def NetworkRoundTripsWrongFalsely : Prop := networkRoundTripsRow.holds Try.pinned (OpenSpec.ofChange networkRoundTripsWrong)

/- THE SECOND FORM. 'bulk': how many values and letters a reading holds, each counted each time it is reached (what is shared counts as often as it is met; a slice's spare places count too). A statement '..UptoSaid' is the law's where the arguments, and the package variables that the reading takes, are together of bulk at most 1048576: NARROWER than '..Said'. Prove '..Said' where nothing that the law and all that it calls make is longer than what came in: it says more and counts as full. Else prove '..UptoSaid'. A law counts once. -/
mutual
def uptoBulk {H : Type} : DataW H → Nat
  | .lit (.string bytes) => bytes.length + 1
  | .lit _ => 1
  | .nil => 1
  | .ptr d => uptoBulk d + 1
  | .slice elems spare => uptoBulkAll elems + uptoBulkAll spare + 1
  | .agg parts => uptoBulkAll parts + 1
  | .iface _ d => uptoBulk d + 1
  | .map entries => uptoBulkEntries entries + 1
  | .held _ => 1
def uptoBulkAll {H : Type} : List (DataW H) → Nat
  | [] => 0
  | d :: r => uptoBulk d + uptoBulkAll r
def uptoBulkEntries {H : Type} : List (Lit × DataW H) → Nat
  | [] => 0
  | x :: r => uptoBulkEntry x + uptoBulkEntries r
def uptoBulkEntry {H : Type} : Lit × DataW H → Nat
  | (.string bytes, d) => bytes.length + uptoBulk d + 1
  | (_, d) => uptoBulk d + 1
 end
def uptoSmall : (H : Type) → List (DataW H) → Bool := fun _ ds => decide (uptoBulkAll ds ≤ 1048576)
def OpenSpec.upto (s : _root_.Go.ChangeSpec) : _root_.Go.OpenSpec := { _root_.Go.OpenSpec.ofChange s with cond := some uptoSmall }

/-- 'clockworklaw40.NetworkGroups', WHERE WHAT IT READS IS OF BULK AT MOST 1048576: true; the input reads as it did. -/
def networkGroupsUptoRow : OpenClaim := { program := "ytbfhlneijbdoiaa", sum := "68893c0183a8bafc7bf179340a09b8e61b6047e9ec992ff148481de7be1e50dc", func := "clockwork/clockworklaw40.NetworkGroups", spec := "networkGroups", apart := false, narrowed := true }
def NetworkGroupsUptoSaid : Prop := networkGroupsUptoRow.holds Try.pinned (OpenSpec.upto networkGroupsSpec)

/-- 'clockworklaw40.NetworkValid', WHERE WHAT IT READS IS OF BULK AT MOST 1048576: true; the input reads as it did. -/
def networkValidUptoRow : OpenClaim := { program := "ytbfhlneijbdoiaa", sum := "68893c0183a8bafc7bf179340a09b8e61b6047e9ec992ff148481de7be1e50dc", func := "clockwork/clockworklaw40.NetworkValid", spec := "networkValid", apart := false, narrowed := true }
def NetworkValidUptoSaid : Prop := networkValidUptoRow.holds Try.pinned (OpenSpec.upto networkValidSpec)

/-- 'clockworklaw40.NetworkKeeps', WHERE WHAT IT READS IS OF BULK AT MOST 1048576: true; the input reads as it did. -/
def networkKeepsUptoRow : OpenClaim := { program := "ytbfhlneijbdoiaa", sum := "68893c0183a8bafc7bf179340a09b8e61b6047e9ec992ff148481de7be1e50dc", func := "clockwork/clockworklaw40.NetworkKeeps", spec := "networkKeeps", apart := false, narrowed := true }
def NetworkKeepsUptoSaid : Prop := networkKeepsUptoRow.holds Try.pinned (OpenSpec.upto networkKeepsSpec)

/-- 'clockworklaw40.NetworkSends', WHERE WHAT IT READS IS OF BULK AT MOST 1048576: true; the input reads as it did. -/
def networkSendsUptoRow : OpenClaim := { program := "ytbfhlneijbdoiaa", sum := "68893c0183a8bafc7bf179340a09b8e61b6047e9ec992ff148481de7be1e50dc", func := "clockwork/clockworklaw40.NetworkSends", spec := "networkSends", apart := false, narrowed := true }
def NetworkSendsUptoSaid : Prop := networkSendsUptoRow.holds Try.pinned (OpenSpec.upto networkSendsSpec)

/-- 'clockworklaw40.NetworkCodes', WHERE WHAT IT READS IS OF BULK AT MOST 1048576: true; the input reads as it did. -/
def networkCodesUptoRow : OpenClaim := { program := "ytbfhlneijbdoiaa", sum := "68893c0183a8bafc7bf179340a09b8e61b6047e9ec992ff148481de7be1e50dc", func := "clockwork/clockworklaw40.NetworkCodes", spec := "networkCodes", inPlace := ["internal/abi.NoEscape"], apart := false, narrowed := true }
def NetworkCodesUptoSaid : Prop := networkCodesUptoRow.holds Try.pinned (OpenSpec.upto networkCodesSpec)

/-- 'clockworklaw40.NetworkRoundTrips', WHERE WHAT IT READS IS OF BULK AT MOST 1048576: true; the input reads as it did. -/
def networkRoundTripsUptoRow : OpenClaim := { program := "ytbfhlneijbdoiaa", sum := "68893c0183a8bafc7bf179340a09b8e61b6047e9ec992ff148481de7be1e50dc", func := "clockwork/clockworklaw40.NetworkRoundTrips", spec := "networkRoundTrips", inPlace := ["internal/abi.NoEscape"], apart := false, narrowed := true }
def NetworkRoundTripsUptoSaid : Prop := networkRoundTripsUptoRow.holds Try.pinned (OpenSpec.upto networkRoundTripsSpec)

end Rows
end Go.Proofs.Ytbfhlneijbdoiaa
