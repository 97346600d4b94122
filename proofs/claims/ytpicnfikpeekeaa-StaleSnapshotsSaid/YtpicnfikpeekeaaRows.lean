/-
  No cell of these rows narrows 'for every input' (looked for: loops, veiled, ifaces, maps, wideKeys, modest, calm, conditions, laid).
  DERIVED. THE GIVEN ROWS OF THIS SEAT. 5 by the template 'for every input the law returns true; each argument reads behind the call as it read before'; 0 by the template 'total and deterministic' (their statements: YtpicnfikpeekeaaTotals.lean).
  GIVEN WITH THE SEED: the statements are not yours to turn. If you find one false, say at which input.
  Laid BY PROGRAM, IN A SANDBOX (cutbox-rows.mjs): the forced cells as the released guide's own fill.sh prints them over the translation a8e43ee3041ea5d4… (all of the seat's roots in one cut). By AI agents, Wed Nov 11 2026. No macro, syntax, notation, axiom, sorry.
-/
import Derived.Test.YtpicnfikpeekeaaChecked
import GoSem.Claim
import GoSem.ClaimJoined
import GoSem.ClaimMapViews
import Derived.JoinedTies
import Derived.KernelRfl
namespace Go.Proofs.Ytpicnfikpeekeaa
/- THE CELL 'sum', in the pinned program and in every row, IS THE sha256 OF THE DUMP (.gsa) THAT YtpicnfikpeekeaaProg.lean LOADS. Nothing in Lean hashes anything: it is a label: what it is worth is what the hold of that sum in a sandbox is worth. -/
noncomputable def Try.pinned : Pinned := { name := "ytpicnfikpeekeaa", sum := "a8e43ee3041ea5d487861e989f09651ab5aebc2f99282ce08fe5e07f8c21be12", checked := Try.checked }
namespace Rows
def none {H : Type} : Left H := { results := [], args := [] }

/-- 'clockworklaw52.StaleBounded': WHATEVER THE INPUT: true; the input reads as it did. -/
def staleBoundedSpec : ChangeSpec := { name := "staleBounded", fn := fun _ => fun
  | [d1, d2, d3] => { results := [.lit (.bool true)], args := [d1, d2, d3] }
  | _ => none }
def staleBoundedRow : OpenClaim := { program := "ytpicnfikpeekeaa", sum := "a8e43ee3041ea5d487861e989f09651ab5aebc2f99282ce08fe5e07f8c21be12", func := "clockwork/clockworklaw52.StaleBounded", spec := "staleBounded", unfollowed := true, recurses := true, apart := false }
def StaleBoundedSaid : Prop := staleBoundedRow.holds Try.pinned (OpenSpec.ofChange staleBoundedSpec)

/-- ITS FALSE NEIGHBOUR: 'it returns false'. Refute it at one input. -/
def staleBoundedWrong : ChangeSpec := { name := "staleBounded", fn := fun _ => fun
  | [d1, d2, d3] => { results := [.lit (.bool false)], args := [d1, d2, d3] }
  | _ => none }
def StaleBoundedWrongFalsely : Prop := staleBoundedRow.holds Try.pinned (OpenSpec.ofChange staleBoundedWrong)

/-- 'clockworklaw52.StaleChooses': WHATEVER THE INPUT: true; the input reads as it did. -/
def staleChoosesSpec : ChangeSpec := { name := "staleChooses", fn := fun _ => fun
  | [d1, d2, d3] => { results := [.lit (.bool true)], args := [d1, d2, d3] }
  | _ => none }
def staleChoosesRow : OpenClaim := { program := "ytpicnfikpeekeaa", sum := "a8e43ee3041ea5d487861e989f09651ab5aebc2f99282ce08fe5e07f8c21be12", func := "clockwork/clockworklaw52.StaleChooses", spec := "staleChooses", unfollowed := true, recurses := true, apart := false }
def StaleChoosesSaid : Prop := staleChoosesRow.holds Try.pinned (OpenSpec.ofChange staleChoosesSpec)

/-- ITS FALSE NEIGHBOUR: 'it returns false'. Refute it at one input. -/
def staleChoosesWrong : ChangeSpec := { name := "staleChooses", fn := fun _ => fun
  | [d1, d2, d3] => { results := [.lit (.bool false)], args := [d1, d2, d3] }
  | _ => none }
def StaleChoosesWrongFalsely : Prop := staleChoosesRow.holds Try.pinned (OpenSpec.ofChange staleChoosesWrong)

/-- 'clockworklaw52.StaleReads': WHATEVER THE INPUT: true; the input reads as it did. -/
def staleReadsSpec : ChangeSpec := { name := "staleReads", fn := fun _ => fun
  | [d1, d2, d3] => { results := [.lit (.bool true)], args := [d1, d2, d3] }
  | _ => none }
def staleReadsRow : OpenClaim := { program := "ytpicnfikpeekeaa", sum := "a8e43ee3041ea5d487861e989f09651ab5aebc2f99282ce08fe5e07f8c21be12", func := "clockwork/clockworklaw52.StaleReads", spec := "staleReads", unfollowed := true, recurses := true, apart := false }
def StaleReadsSaid : Prop := staleReadsRow.holds Try.pinned (OpenSpec.ofChange staleReadsSpec)

/-- ITS FALSE NEIGHBOUR: 'it returns false'. Refute it at one input. -/
def staleReadsWrong : ChangeSpec := { name := "staleReads", fn := fun _ => fun
  | [d1, d2, d3] => { results := [.lit (.bool false)], args := [d1, d2, d3] }
  | _ => none }
def StaleReadsWrongFalsely : Prop := staleReadsRow.holds Try.pinned (OpenSpec.ofChange staleReadsWrong)

/-- 'clockworklaw52.StaleSnapshots': WHATEVER THE INPUT: true; the input reads as it did. -/
def staleSnapshotsSpec : ChangeSpec := { name := "staleSnapshots", fn := fun _ => fun
  | [d1, d2, d3] => { results := [.lit (.bool true)], args := [d1, d2, d3] }
  | _ => none }
def staleSnapshotsRow : OpenClaim := { program := "ytpicnfikpeekeaa", sum := "a8e43ee3041ea5d487861e989f09651ab5aebc2f99282ce08fe5e07f8c21be12", func := "clockwork/clockworklaw52.StaleSnapshots", spec := "staleSnapshots", unfollowed := true, recurses := true, apart := false }
def StaleSnapshotsSaid : Prop := staleSnapshotsRow.holds Try.pinned (OpenSpec.ofChange staleSnapshotsSpec)

/-- ITS FALSE NEIGHBOUR: 'it returns false'. Refute it at one input. -/
def staleSnapshotsWrong : ChangeSpec := { name := "staleSnapshots", fn := fun _ => fun
  | [d1, d2, d3] => { results := [.lit (.bool false)], args := [d1, d2, d3] }
  | _ => none }
def StaleSnapshotsWrongFalsely : Prop := staleSnapshotsRow.holds Try.pinned (OpenSpec.ofChange staleSnapshotsWrong)

/-- 'clockworklaw52.StaleHistories': WHATEVER THE INPUT: true; the input reads as it did. -/
def staleHistoriesSpec : ChangeSpec := { name := "staleHistories", fn := fun _ => fun
  | [d1, d2, d3] => { results := [.lit (.bool true)], args := [d1, d2, d3] }
  | _ => none }
def staleHistoriesRow : OpenClaim := { program := "ytpicnfikpeekeaa", sum := "a8e43ee3041ea5d487861e989f09651ab5aebc2f99282ce08fe5e07f8c21be12", func := "clockwork/clockworklaw52.StaleHistories", spec := "staleHistories", inPlace := ["slices.overlaps[clockwork/api.Row]"], unfollowed := true, recurses := true, apart := false }
def StaleHistoriesSaid : Prop := staleHistoriesRow.holds Try.pinned (OpenSpec.ofChange staleHistoriesSpec)

/-- ITS FALSE NEIGHBOUR: 'it returns false'. Refute it at one input. -/
def staleHistoriesWrong : ChangeSpec := { name := "staleHistories", fn := fun _ => fun
  | [d1, d2, d3] => { results := [.lit (.bool false)], args := [d1, d2, d3] }
  | _ => none }
def StaleHistoriesWrongFalsely : Prop := staleHistoriesRow.holds Try.pinned (OpenSpec.ofChange staleHistoriesWrong)

/- THE SECOND FORM. 'bulk': how many values and letters a reading holds, each counted each time it is reached (what is shared counts as often as it is met; a slice's spare places count too). A statement '..UptoSaid' is the law's where the arguments, and the package variables that the reading takes, are together of bulk at most 1048576: NARROWER than '..Said'. Prove '..Said' where nothing that the law and all that it calls make is longer than what came in: it says more and counts as full. Else prove '..UptoSaid'. A law counts once. -/
mutual
def uptoBulk {H : Type} : DataW H → Nat
  | .lit (.string bytes) => bytes.length + 1
  | .lit _ => 1
  | .nil => 1
  | .ptr d => uptoBulk d + 1
  | .slice elems spare => uptoBulkAll elems + uptoBulkAll spare + 1
  | .agg parts => uptoBulkAll parts + 1
  | .iface _ d => uptoBulk d + 1
  | .map entries => uptoBulkEntries entries + 1
  | .held _ => 1
def uptoBulkAll {H : Type} : List (DataW H) → Nat
  | [] => 0
  | d :: r => uptoBulk d + uptoBulkAll r
def uptoBulkEntries {H : Type} : List (Lit × DataW H) → Nat
  | [] => 0
  | x :: r => uptoBulkEntry x + uptoBulkEntries r
def uptoBulkEntry {H : Type} : Lit × DataW H → Nat
  | (.string bytes, d) => bytes.length + uptoBulk d + 1
  | (_, d) => uptoBulk d + 1
 end
def uptoSmall : (H : Type) → List (DataW H) → Bool := fun _ ds => decide (uptoBulkAll ds ≤ 1048576)
def OpenSpec.upto (s : _root_.Go.ChangeSpec) : _root_.Go.OpenSpec := { _root_.Go.OpenSpec.ofChange s with cond := some uptoSmall }

/-- 'clockworklaw52.StaleBounded', WHERE WHAT IT READS IS OF BULK AT MOST 1048576: true; the input reads as it did. -/
def staleBoundedUptoRow : OpenClaim := { program := "ytpicnfikpeekeaa", sum := "a8e43ee3041ea5d487861e989f09651ab5aebc2f99282ce08fe5e07f8c21be12", func := "clockwork/clockworklaw52.StaleBounded", spec := "staleBounded", unfollowed := true, recurses := true, apart := false, narrowed := true }
def StaleBoundedUptoSaid : Prop := staleBoundedUptoRow.holds Try.pinned (OpenSpec.upto staleBoundedSpec)

/-- 'clockworklaw52.StaleChooses', WHERE WHAT IT READS IS OF BULK AT MOST 1048576: true; the input reads as it did. -/
def staleChoosesUptoRow : OpenClaim := { program := "ytpicnfikpeekeaa", sum := "a8e43ee3041ea5d487861e989f09651ab5aebc2f99282ce08fe5e07f8c21be12", func := "clockwork/clockworklaw52.StaleChooses", spec := "staleChooses", unfollowed := true, recurses := true, apart := false, narrowed := true }
def StaleChoosesUptoSaid : Prop := staleChoosesUptoRow.holds Try.pinned (OpenSpec.upto staleChoosesSpec)

/-- 'clockworklaw52.StaleReads', WHERE WHAT IT READS IS OF BULK AT MOST 1048576: true; the input reads as it did. -/
def staleReadsUptoRow : OpenClaim := { program := "ytpicnfikpeekeaa", sum := "a8e43ee3041ea5d487861e989f09651ab5aebc2f99282ce08fe5e07f8c21be12", func := "clockwork/clockworklaw52.StaleReads", spec := "staleReads", unfollowed := true, recurses := true, apart := false, narrowed := true }
def StaleReadsUptoSaid : Prop := staleReadsUptoRow.holds Try.pinned (OpenSpec.upto staleReadsSpec)

/-- 'clockworklaw52.StaleSnapshots', WHERE WHAT IT READS IS OF BULK AT MOST 1048576: true; the input reads as it did. -/
def staleSnapshotsUptoRow : OpenClaim := { program := "ytpicnfikpeekeaa", sum := "a8e43ee3041ea5d487861e989f09651ab5aebc2f99282ce08fe5e07f8c21be12", func := "clockwork/clockworklaw52.StaleSnapshots", spec := "staleSnapshots", unfollowed := true, recurses := true, apart := false, narrowed := true }
def StaleSnapshotsUptoSaid : Prop := staleSnapshotsUptoRow.holds Try.pinned (OpenSpec.upto staleSnapshotsSpec)

/-- 'clockworklaw52.StaleHistories', WHERE WHAT IT READS IS OF BULK AT MOST 1048576: true; the input reads as it did. -/
def staleHistoriesUptoRow : OpenClaim := { program := "ytpicnfikpeekeaa", sum := "a8e43ee3041ea5d487861e989f09651ab5aebc2f99282ce08fe5e07f8c21be12", func := "clockwork/clockworklaw52.StaleHistories", spec := "staleHistories", inPlace := ["slices.overlaps[clockwork/api.Row]"], unfollowed := true, recurses := true, apart := false, narrowed := true }
def StaleHistoriesUptoSaid : Prop := staleHistoriesUptoRow.holds Try.pinned (OpenSpec.upto staleHistoriesSpec)

end Rows
end Go.Proofs.Ytpicnfikpeekeaa
