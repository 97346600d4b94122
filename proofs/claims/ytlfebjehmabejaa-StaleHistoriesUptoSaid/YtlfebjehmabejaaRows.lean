/-
  No cell of these rows narrows 'for every input' (looked for: loops, veiled, ifaces, maps, wideKeys, modest, calm, conditions, laid).
  DERIVED. THE GIVEN ROWS OF THIS SEAT. 3 by the template 'for every input the law returns true; each argument reads behind the call as it read before'; 0 by the template 'total and deterministic' (their statements: YtlfebjehmabejaaTotals.lean).
  GIVEN WITH THE SEED: the statements are not yours to turn. If you find one false, say at which input.
  Laid BY PROGRAM, IN A SANDBOX (cutbox-rows.mjs): the forced cells as the released guide's own fill.sh prints them over the translation e59b47a0075b9fee… (all of the seat's roots in one cut). By AI agents, Wed Nov 11 2026. No macro, syntax, notation, axiom, sorry.
-/
import Derived.Test.YtlfebjehmabejaaChecked
import GoSem.Claim
import GoSem.ClaimJoined
import GoSem.ClaimMapViews
import Derived.JoinedTies
import Derived.KernelRfl
namespace Go.Proofs.Ytlfebjehmabejaa
/- THE CELL 'sum', in the pinned program and in every row, IS THE sha256 OF THE DUMP (.gsa) THAT YtlfebjehmabejaaProg.lean LOADS. Nothing in Lean hashes anything: it is a label: what it is worth is what the hold of that sum in a sandbox is worth. -/
noncomputable def Try.pinned : Pinned := { name := "ytlfebjehmabejaa", sum := "e59b47a0075b9fee3cd50136e0795499ceca398770fc0957dc26114cb49a2f13", checked := Try.checked }
namespace Rows
def none {H : Type} : Left H := { results := [], args := [] }

/-- 'clockworklaw22.MvstoreApplies': WHATEVER THE INPUT: true; the input reads as it did. -/
def mvstoreAppliesSpec : ChangeSpec := { name := "mvstoreApplies", fn := fun _ => fun
  | [d1, d2, d3] => { results := [.lit (.bool true)], args := [d1, d2, d3] }
  | _ => none }
def mvstoreAppliesRow : OpenClaim := { program := "ytlfebjehmabejaa", sum := "e59b47a0075b9fee3cd50136e0795499ceca398770fc0957dc26114cb49a2f13", func := "clockwork/clockworklaw22.MvstoreApplies", spec := "mvstoreApplies", inPlace := ["slices.overlaps[clockwork/api.Row]"], unfollowed := true, recurses := true, apart := false }
def MvstoreAppliesSaid : Prop := mvstoreAppliesRow.holds Try.pinned (OpenSpec.ofChange mvstoreAppliesSpec)

/-- ITS FALSE NEIGHBOUR: 'it returns false'. Refute it at one input. -/
def mvstoreAppliesWrong : ChangeSpec := { name := "mvstoreApplies", fn := fun _ => fun
  | [d1, d2, d3] => { results := [.lit (.bool false)], args := [d1, d2, d3] }
  | _ => none }
def MvstoreAppliesWrongFalsely : Prop := mvstoreAppliesRow.holds Try.pinned (OpenSpec.ofChange mvstoreAppliesWrong)

/-- 'clockworklaw22.MvstoreSnapshots': WHATEVER THE INPUT: true; the input reads as it did. -/
def mvstoreSnapshotsSpec : ChangeSpec := { name := "mvstoreSnapshots", fn := fun _ => fun
  | [d1, d2, d3, d4, d5] => { results := [.lit (.bool true)], args := [d1, d2, d3, d4, d5] }
  | _ => none }
def mvstoreSnapshotsRow : OpenClaim := { program := "ytlfebjehmabejaa", sum := "e59b47a0075b9fee3cd50136e0795499ceca398770fc0957dc26114cb49a2f13", func := "clockwork/clockworklaw22.MvstoreSnapshots", spec := "mvstoreSnapshots", inPlace := ["slices.overlaps[clockwork/api.Row]", "internal/bytealg.abigen_runtime_cmpstring"], unfollowed := true, recurses := true, apart := false }
def MvstoreSnapshotsSaid : Prop := mvstoreSnapshotsRow.holds Try.pinned (OpenSpec.ofChange mvstoreSnapshotsSpec)

/-- ITS FALSE NEIGHBOUR: 'it returns false'. Refute it at one input. -/
def mvstoreSnapshotsWrong : ChangeSpec := { name := "mvstoreSnapshots", fn := fun _ => fun
  | [d1, d2, d3, d4, d5] => { results := [.lit (.bool false)], args := [d1, d2, d3, d4, d5] }
  | _ => none }
def MvstoreSnapshotsWrongFalsely : Prop := mvstoreSnapshotsRow.holds Try.pinned (OpenSpec.ofChange mvstoreSnapshotsWrong)

/-- 'clockworklaw52.StaleHistories': WHATEVER THE INPUT: true; the input reads as it did. -/
def staleHistoriesSpec : ChangeSpec := { name := "staleHistories", fn := fun _ => fun
  | [d1, d2, d3] => { results := [.lit (.bool true)], args := [d1, d2, d3] }
  | _ => none }
def staleHistoriesRow : OpenClaim := { program := "ytlfebjehmabejaa", sum := "e59b47a0075b9fee3cd50136e0795499ceca398770fc0957dc26114cb49a2f13", func := "clockwork/clockworklaw52.StaleHistories", spec := "staleHistories", inPlace := ["slices.overlaps[clockwork/api.Row]"], unfollowed := true, recurses := true, apart := false }
def StaleHistoriesSaid : Prop := staleHistoriesRow.holds Try.pinned (OpenSpec.ofChange staleHistoriesSpec)

/-- ITS FALSE NEIGHBOUR: 'it returns false'. Refute it at one input. -/
def staleHistoriesWrong : ChangeSpec := { name := "staleHistories", fn := fun _ => fun
  | [d1, d2, d3] => { results := [.lit (.bool false)], args := [d1, d2, d3] }
  | _ => none }
def StaleHistoriesWrongFalsely : Prop := staleHistoriesRow.holds Try.pinned (OpenSpec.ofChange staleHistoriesWrong)

/- THE SECOND FORM. 'bulk': how many values and letters a reading holds, each counted each time it is reached (what is shared counts as often as it is met; a slice's spare places count too). A statement '..UptoSaid' is the law's where the arguments, and the package variables that the reading takes, are together of bulk at most 1048576: NARROWER than '..Said'. Prove '..Said' where nothing that the law and all that it calls make is longer than what came in: it says more and counts as full. Else prove '..UptoSaid'. A law counts once. -/
mutual
def uptoBulk {H : Type} : DataW H → Nat
  | .lit (.string bytes) => bytes.length + 1
  | .lit _ => 1
  | .nil => 1
  | .ptr d => uptoBulk d + 1
  | .slice elems spare => uptoBulkAll elems + uptoBulkAll spare + 1
  | .agg parts => uptoBulkAll parts + 1
  | .iface _ d => uptoBulk d + 1
  | .map entries => uptoBulkEntries entries + 1
  | .held _ => 1
def uptoBulkAll {H : Type} : List (DataW H) → Nat
  | [] => 0
  | d :: r => uptoBulk d + uptoBulkAll r
def uptoBulkEntries {H : Type} : List (Lit × DataW H) → Nat
  | [] => 0
  | x :: r => uptoBulkEntry x + uptoBulkEntries r
def uptoBulkEntry {H : Type} : Lit × DataW H → Nat
  | (.string bytes, d) => bytes.length + uptoBulk d + 1
  | (_, d) => uptoBulk d + 1
 end
def uptoSmall : (H : Type) → List (DataW H) → Bool := fun _ ds => decide (uptoBulkAll ds ≤ 1048576)
def OpenSpec.upto (s : _root_.Go.ChangeSpec) : _root_.Go.OpenSpec := { _root_.Go.OpenSpec.ofChange s with cond := some uptoSmall }

/-- 'clockworklaw22.MvstoreApplies', WHERE WHAT IT READS IS OF BULK AT MOST 1048576: true; the input reads as it did. -/
def mvstoreAppliesUptoRow : OpenClaim := { program := "ytlfebjehmabejaa", sum := "e59b47a0075b9fee3cd50136e0795499ceca398770fc0957dc26114cb49a2f13", func := "clockwork/clockworklaw22.MvstoreApplies", spec := "mvstoreApplies", inPlace := ["slices.overlaps[clockwork/api.Row]"], unfollowed := true, recurses := true, apart := false, narrowed := true }
def MvstoreAppliesUptoSaid : Prop := mvstoreAppliesUptoRow.holds Try.pinned (OpenSpec.upto mvstoreAppliesSpec)

/-- 'clockworklaw22.MvstoreSnapshots', WHERE WHAT IT READS IS OF BULK AT MOST 1048576: true; the input reads as it did. -/
def mvstoreSnapshotsUptoRow : OpenClaim := { program := "ytlfebjehmabejaa", sum := "e59b47a0075b9fee3cd50136e0795499ceca398770fc0957dc26114cb49a2f13", func := "clockwork/clockworklaw22.MvstoreSnapshots", spec := "mvstoreSnapshots", inPlace := ["slices.overlaps[clockwork/api.Row]", "internal/bytealg.abigen_runtime_cmpstring"], unfollowed := true, recurses := true, apart := false, narrowed := true }
def MvstoreSnapshotsUptoSaid : Prop := mvstoreSnapshotsUptoRow.holds Try.pinned (OpenSpec.upto mvstoreSnapshotsSpec)

/-- 'clockworklaw52.StaleHistories', WHERE WHAT IT READS IS OF BULK AT MOST 1048576: true; the input reads as it did. -/
def staleHistoriesUptoRow : OpenClaim := { program := "ytlfebjehmabejaa", sum := "e59b47a0075b9fee3cd50136e0795499ceca398770fc0957dc26114cb49a2f13", func := "clockwork/clockworklaw52.StaleHistories", spec := "staleHistories", inPlace := ["slices.overlaps[clockwork/api.Row]"], unfollowed := true, recurses := true, apart := false, narrowed := true }
def StaleHistoriesUptoSaid : Prop := staleHistoriesUptoRow.holds Try.pinned (OpenSpec.upto staleHistoriesSpec)

end Rows
end Go.Proofs.Ytlfebjehmabejaa
