/-
  No cell of these rows narrows 'for every input' (looked for: loops, veiled, ifaces, maps, wideKeys, modest, calm, conditions, laid).
  DERIVED. THE GIVEN ROWS OF THIS SEAT. 8 by the template 'for every input the law returns true; each argument reads behind the call as it read before'; 0 by the template 'total and deterministic' (their statements: YtobgbmklepcblaaTotals.lean).
  GIVEN WITH THE SEED: the statements are not yours to turn. If you find one false, say at which input.
  Laid BY PROGRAM, IN A SANDBOX (cutbox-rows.mjs): the forced cells as the released guide's own fill.sh prints them over the translation cbf2d768f852dd1f… (all of the seat's roots in one cut). By AI agents, Wed Nov 11 2026. No macro, syntax, notation, axiom, sorry.
-/
import Derived.Test.YtobgbmklepcblaaChecked
import GoSem.Claim
import GoSem.ClaimJoined
import GoSem.ClaimMapViews
import Derived.JoinedTies
import Derived.KernelRfl
namespace Go.Proofs.Ytobgbmklepcblaa
/- THE CELL 'sum', in the pinned program and in every row, IS THE sha256 OF THE DUMP (.gsa) THAT YtobgbmklepcblaaProg.lean LOADS. Nothing in Lean hashes anything: it is a label: what it is worth is what the hold of that sum in a sandbox is worth. -/
noncomputable def Try.pinned : Pinned := { name := "ytobgbmklepcblaa", sum := "cbf2d768f852dd1f3cbf5bbe376fa1dcf06e3671e369984587260da6d5ac563b", checked := Try.checked }
namespace Rows
def none {H : Type} : Left H := { results := [], args := [] }

/-- 'clockworklaw22.MvstoreValid': WHATEVER THE INPUT: true; the input reads as it did. -/
def mvstoreValidSpec : ChangeSpec := { name := "mvstoreValid", fn := fun _ => fun
  | [d] => { results := [.lit (.bool true)], args := [d] }
  | _ => none }
def mvstoreValidRow : OpenClaim := { program := "ytobgbmklepcblaa", sum := "cbf2d768f852dd1f3cbf5bbe376fa1dcf06e3671e369984587260da6d5ac563b", func := "clockwork/clockworklaw22.MvstoreValid", spec := "mvstoreValid", inPlace := ["slices.overlaps[clockwork/api.Row]"], unfollowed := true, recurses := true, apart := false }
def MvstoreValidSaid : Prop := mvstoreValidRow.holds Try.pinned (OpenSpec.ofChange mvstoreValidSpec)

/-- ITS FALSE NEIGHBOUR: 'it returns false'. Refute it at one input. -/
def mvstoreValidWrong : ChangeSpec := { name := "mvstoreValid", fn := fun _ => fun
  | [d] => { results := [.lit (.bool false)], args := [d] }
  | _ => none }
def MvstoreValidWrongFalsely : Prop := mvstoreValidRow.holds Try.pinned (OpenSpec.ofChange mvstoreValidWrong)

/-- 'clockworklaw22.MvstoreNews': WHATEVER THE INPUT: true; the input reads as it did. -/
def mvstoreNewsSpec : ChangeSpec := { name := "mvstoreNews", fn := fun _ => fun
  | [d1, d2] => { results := [.lit (.bool true)], args := [d1, d2] }
  | _ => none }
def mvstoreNewsRow : OpenClaim := { program := "ytobgbmklepcblaa", sum := "cbf2d768f852dd1f3cbf5bbe376fa1dcf06e3671e369984587260da6d5ac563b", func := "clockwork/clockworklaw22.MvstoreNews", spec := "mvstoreNews", inPlace := ["slices.overlaps[clockwork/api.Row]"], unfollowed := true, recurses := true, apart := false }
def MvstoreNewsSaid : Prop := mvstoreNewsRow.holds Try.pinned (OpenSpec.ofChange mvstoreNewsSpec)

/-- ITS FALSE NEIGHBOUR: 'it returns false'. Refute it at one input. -/
def mvstoreNewsWrong : ChangeSpec := { name := "mvstoreNews", fn := fun _ => fun
  | [d1, d2] => { results := [.lit (.bool false)], args := [d1, d2] }
  | _ => none }
def MvstoreNewsWrongFalsely : Prop := mvstoreNewsRow.holds Try.pinned (OpenSpec.ofChange mvstoreNewsWrong)

/-- 'clockworklaw22.MvstoreApplies': WHATEVER THE INPUT: true; the input reads as it did. -/
def mvstoreAppliesSpec : ChangeSpec := { name := "mvstoreApplies", fn := fun _ => fun
  | [d1, d2, d3] => { results := [.lit (.bool true)], args := [d1, d2, d3] }
  | _ => none }
def mvstoreAppliesRow : OpenClaim := { program := "ytobgbmklepcblaa", sum := "cbf2d768f852dd1f3cbf5bbe376fa1dcf06e3671e369984587260da6d5ac563b", func := "clockwork/clockworklaw22.MvstoreApplies", spec := "mvstoreApplies", inPlace := ["slices.overlaps[clockwork/api.Row]"], unfollowed := true, recurses := true, apart := false }
def MvstoreAppliesSaid : Prop := mvstoreAppliesRow.holds Try.pinned (OpenSpec.ofChange mvstoreAppliesSpec)

/-- ITS FALSE NEIGHBOUR: 'it returns false'. Refute it at one input. -/
def mvstoreAppliesWrong : ChangeSpec := { name := "mvstoreApplies", fn := fun _ => fun
  | [d1, d2, d3] => { results := [.lit (.bool false)], args := [d1, d2, d3] }
  | _ => none }
def MvstoreAppliesWrongFalsely : Prop := mvstoreAppliesRow.holds Try.pinned (OpenSpec.ofChange mvstoreAppliesWrong)

/-- 'clockworklaw22.MvstoreTruncates': WHATEVER THE INPUT: true; the input reads as it did. -/
def mvstoreTruncatesSpec : ChangeSpec := { name := "mvstoreTruncates", fn := fun _ => fun
  | [d1, d2] => { results := [.lit (.bool true)], args := [d1, d2] }
  | _ => none }
def mvstoreTruncatesRow : OpenClaim := { program := "ytobgbmklepcblaa", sum := "cbf2d768f852dd1f3cbf5bbe376fa1dcf06e3671e369984587260da6d5ac563b", func := "clockwork/clockworklaw22.MvstoreTruncates", spec := "mvstoreTruncates", inPlace := ["slices.overlaps[clockwork/api.Row]"], unfollowed := true, recurses := true, apart := false }
def MvstoreTruncatesSaid : Prop := mvstoreTruncatesRow.holds Try.pinned (OpenSpec.ofChange mvstoreTruncatesSpec)

/-- ITS FALSE NEIGHBOUR: 'it returns false'. Refute it at one input. -/
def mvstoreTruncatesWrong : ChangeSpec := { name := "mvstoreTruncates", fn := fun _ => fun
  | [d1, d2] => { results := [.lit (.bool false)], args := [d1, d2] }
  | _ => none }
def MvstoreTruncatesWrongFalsely : Prop := mvstoreTruncatesRow.holds Try.pinned (OpenSpec.ofChange mvstoreTruncatesWrong)

/-- 'clockworklaw22.MvstoreReads': WHATEVER THE INPUT: true; the input reads as it did. -/
def mvstoreReadsSpec : ChangeSpec := { name := "mvstoreReads", fn := fun _ => fun
  | [d1, d2, d3] => { results := [.lit (.bool true)], args := [d1, d2, d3] }
  | _ => none }
def mvstoreReadsRow : OpenClaim := { program := "ytobgbmklepcblaa", sum := "cbf2d768f852dd1f3cbf5bbe376fa1dcf06e3671e369984587260da6d5ac563b", func := "clockwork/clockworklaw22.MvstoreReads", spec := "mvstoreReads", inPlace := ["slices.overlaps[clockwork/api.Row]"], unfollowed := true, recurses := true, apart := false }
def MvstoreReadsSaid : Prop := mvstoreReadsRow.holds Try.pinned (OpenSpec.ofChange mvstoreReadsSpec)

/-- ITS FALSE NEIGHBOUR: 'it returns false'. Refute it at one input. -/
def mvstoreReadsWrong : ChangeSpec := { name := "mvstoreReads", fn := fun _ => fun
  | [d1, d2, d3] => { results := [.lit (.bool false)], args := [d1, d2, d3] }
  | _ => none }
def MvstoreReadsWrongFalsely : Prop := mvstoreReadsRow.holds Try.pinned (OpenSpec.ofChange mvstoreReadsWrong)

/-- 'clockworklaw22.MvstoreForm': WHATEVER THE INPUT: true; the input reads as it did. -/
def mvstoreFormSpec : ChangeSpec := { name := "mvstoreForm", fn := fun _ => fun
  | [d1, d2] => { results := [.lit (.bool true)], args := [d1, d2] }
  | _ => none }
def mvstoreFormRow : OpenClaim := { program := "ytobgbmklepcblaa", sum := "cbf2d768f852dd1f3cbf5bbe376fa1dcf06e3671e369984587260da6d5ac563b", func := "clockwork/clockworklaw22.MvstoreForm", spec := "mvstoreForm", inPlace := ["slices.overlaps[clockwork/api.Row]"], unfollowed := true, recurses := true, apart := false }
def MvstoreFormSaid : Prop := mvstoreFormRow.holds Try.pinned (OpenSpec.ofChange mvstoreFormSpec)

/-- ITS FALSE NEIGHBOUR: 'it returns false'. Refute it at one input. -/
def mvstoreFormWrong : ChangeSpec := { name := "mvstoreForm", fn := fun _ => fun
  | [d1, d2] => { results := [.lit (.bool false)], args := [d1, d2] }
  | _ => none }
def MvstoreFormWrongFalsely : Prop := mvstoreFormRow.holds Try.pinned (OpenSpec.ofChange mvstoreFormWrong)

/-- 'clockworklaw22.MvstoreScans': WHATEVER THE INPUT: true; the input reads as it did. -/
def mvstoreScansSpec : ChangeSpec := { name := "mvstoreScans", fn := fun _ => fun
  | [d1, d2, d3, d4] => { results := [.lit (.bool true)], args := [d1, d2, d3, d4] }
  | _ => none }
def mvstoreScansRow : OpenClaim := { program := "ytobgbmklepcblaa", sum := "cbf2d768f852dd1f3cbf5bbe376fa1dcf06e3671e369984587260da6d5ac563b", func := "clockwork/clockworklaw22.MvstoreScans", spec := "mvstoreScans", inPlace := ["slices.overlaps[clockwork/api.Row]"], unfollowed := true, recurses := true, apart := false }
def MvstoreScansSaid : Prop := mvstoreScansRow.holds Try.pinned (OpenSpec.ofChange mvstoreScansSpec)

/-- ITS FALSE NEIGHBOUR: 'it returns false'. Refute it at one input. -/
def mvstoreScansWrong : ChangeSpec := { name := "mvstoreScans", fn := fun _ => fun
  | [d1, d2, d3, d4] => { results := [.lit (.bool false)], args := [d1, d2, d3, d4] }
  | _ => none }
def MvstoreScansWrongFalsely : Prop := mvstoreScansRow.holds Try.pinned (OpenSpec.ofChange mvstoreScansWrong)

/-- 'clockworklaw22.MvstoreSnapshots': WHATEVER THE INPUT: true; the input reads as it did. -/
def mvstoreSnapshotsSpec : ChangeSpec := { name := "mvstoreSnapshots", fn := fun _ => fun
  | [d1, d2, d3, d4, d5] => { results := [.lit (.bool true)], args := [d1, d2, d3, d4, d5] }
  | _ => none }
def mvstoreSnapshotsRow : OpenClaim := { program := "ytobgbmklepcblaa", sum := "cbf2d768f852dd1f3cbf5bbe376fa1dcf06e3671e369984587260da6d5ac563b", func := "clockwork/clockworklaw22.MvstoreSnapshots", spec := "mvstoreSnapshots", inPlace := ["slices.overlaps[clockwork/api.Row]", "internal/bytealg.abigen_runtime_cmpstring"], unfollowed := true, recurses := true, apart := false }
def MvstoreSnapshotsSaid : Prop := mvstoreSnapshotsRow.holds Try.pinned (OpenSpec.ofChange mvstoreSnapshotsSpec)

/-- ITS FALSE NEIGHBOUR: 'it returns false'. Refute it at one input. -/
def mvstoreSnapshotsWrong : ChangeSpec := { name := "mvstoreSnapshots", fn := fun _ => fun
  | [d1, d2, d3, d4, d5] => { results := [.lit (.bool false)], args := [d1, d2, d3, d4, d5] }
  | _ => none }
def MvstoreSnapshotsWrongFalsely : Prop := mvstoreSnapshotsRow.holds Try.pinned (OpenSpec.ofChange mvstoreSnapshotsWrong)

/- THE SECOND FORM. 'bulk': how many values and letters a reading holds, each counted each time it is reached (what is shared counts as often as it is met; a slice's spare places count too). A statement '..UptoSaid' is the law's where the arguments, and the package variables that the reading takes, are together of bulk at most 1048576: NARROWER than '..Said'. Prove '..Said' where nothing that the law and all that it calls make is longer than what came in: it says more and counts as full. Else prove '..UptoSaid'. A law counts once. -/
mutual
def uptoBulk {H : Type} : DataW H → Nat
  | .lit (.string bytes) => bytes.length + 1
  | .lit _ => 1
  | .nil => 1
  | .ptr d => uptoBulk d + 1
  | .slice elems spare => uptoBulkAll elems + uptoBulkAll spare + 1
  | .agg parts => uptoBulkAll parts + 1
  | .iface _ d => uptoBulk d + 1
  | .map entries => uptoBulkEntries entries + 1
  | .held _ => 1
def uptoBulkAll {H : Type} : List (DataW H) → Nat
  | [] => 0
  | d :: r => uptoBulk d + uptoBulkAll r
def uptoBulkEntries {H : Type} : List (Lit × DataW H) → Nat
  | [] => 0
  | x :: r => uptoBulkEntry x + uptoBulkEntries r
def uptoBulkEntry {H : Type} : Lit × DataW H → Nat
  | (.string bytes, d) => bytes.length + uptoBulk d + 1
  | (_, d) => uptoBulk d + 1
 end
def uptoSmall : (H : Type) → List (DataW H) → Bool := fun _ ds => decide (uptoBulkAll ds ≤ 1048576)
def OpenSpec.upto (s : _root_.Go.ChangeSpec) : _root_.Go.OpenSpec := { _root_.Go.OpenSpec.ofChange s with cond := some uptoSmall }

/-- 'clockworklaw22.MvstoreValid', WHERE WHAT IT READS IS OF BULK AT MOST 1048576: true; the input reads as it did. -/
def mvstoreValidUptoRow : OpenClaim := { program := "ytobgbmklepcblaa", sum := "cbf2d768f852dd1f3cbf5bbe376fa1dcf06e3671e369984587260da6d5ac563b", func := "clockwork/clockworklaw22.MvstoreValid", spec := "mvstoreValid", inPlace := ["slices.overlaps[clockwork/api.Row]"], unfollowed := true, recurses := true, apart := false, narrowed := true }
def MvstoreValidUptoSaid : Prop := mvstoreValidUptoRow.holds Try.pinned (OpenSpec.upto mvstoreValidSpec)

/-- 'clockworklaw22.MvstoreNews', WHERE WHAT IT READS IS OF BULK AT MOST 1048576: true; the input reads as it did. -/
def mvstoreNewsUptoRow : OpenClaim := { program := "ytobgbmklepcblaa", sum := "cbf2d768f852dd1f3cbf5bbe376fa1dcf06e3671e369984587260da6d5ac563b", func := "clockwork/clockworklaw22.MvstoreNews", spec := "mvstoreNews", inPlace := ["slices.overlaps[clockwork/api.Row]"], unfollowed := true, recurses := true, apart := false, narrowed := true }
def MvstoreNewsUptoSaid : Prop := mvstoreNewsUptoRow.holds Try.pinned (OpenSpec.upto mvstoreNewsSpec)

/-- 'clockworklaw22.MvstoreApplies', WHERE WHAT IT READS IS OF BULK AT MOST 1048576: true; the input reads as it did. -/
def mvstoreAppliesUptoRow : OpenClaim := { program := "ytobgbmklepcblaa", sum := "cbf2d768f852dd1f3cbf5bbe376fa1dcf06e3671e369984587260da6d5ac563b", func := "clockwork/clockworklaw22.MvstoreApplies", spec := "mvstoreApplies", inPlace := ["slices.overlaps[clockwork/api.Row]"], unfollowed := true, recurses := true, apart := false, narrowed := true }
def MvstoreAppliesUptoSaid : Prop := mvstoreAppliesUptoRow.holds Try.pinned (OpenSpec.upto mvstoreAppliesSpec)

/-- 'clockworklaw22.MvstoreTruncates', WHERE WHAT IT READS IS OF BULK AT MOST 1048576: true; the input reads as it did. -/
def mvstoreTruncatesUptoRow : OpenClaim := { program := "ytobgbmklepcblaa", sum := "cbf2d768f852dd1f3cbf5bbe376fa1dcf06e3671e369984587260da6d5ac563b", func := "clockwork/clockworklaw22.MvstoreTruncates", spec := "mvstoreTruncates", inPlace := ["slices.overlaps[clockwork/api.Row]"], unfollowed := true, recurses := true, apart := false, narrowed := true }
def MvstoreTruncatesUptoSaid : Prop := mvstoreTruncatesUptoRow.holds Try.pinned (OpenSpec.upto mvstoreTruncatesSpec)

/-- 'clockworklaw22.MvstoreReads', WHERE WHAT IT READS IS OF BULK AT MOST 1048576: true; the input reads as it did. -/
def mvstoreReadsUptoRow : OpenClaim := { program := "ytobgbmklepcblaa", sum := "cbf2d768f852dd1f3cbf5bbe376fa1dcf06e3671e369984587260da6d5ac563b", func := "clockwork/clockworklaw22.MvstoreReads", spec := "mvstoreReads", inPlace := ["slices.overlaps[clockwork/api.Row]"], unfollowed := true, recurses := true, apart := false, narrowed := true }
def MvstoreReadsUptoSaid : Prop := mvstoreReadsUptoRow.holds Try.pinned (OpenSpec.upto mvstoreReadsSpec)

/-- 'clockworklaw22.MvstoreForm', WHERE WHAT IT READS IS OF BULK AT MOST 1048576: true; the input reads as it did. -/
def mvstoreFormUptoRow : OpenClaim := { program := "ytobgbmklepcblaa", sum := "cbf2d768f852dd1f3cbf5bbe376fa1dcf06e3671e369984587260da6d5ac563b", func := "clockwork/clockworklaw22.MvstoreForm", spec := "mvstoreForm", inPlace := ["slices.overlaps[clockwork/api.Row]"], unfollowed := true, recurses := true, apart := false, narrowed := true }
def MvstoreFormUptoSaid : Prop := mvstoreFormUptoRow.holds Try.pinned (OpenSpec.upto mvstoreFormSpec)

/-- 'clockworklaw22.MvstoreScans', WHERE WHAT IT READS IS OF BULK AT MOST 1048576: true; the input reads as it did. -/
def mvstoreScansUptoRow : OpenClaim := { program := "ytobgbmklepcblaa", sum := "cbf2d768f852dd1f3cbf5bbe376fa1dcf06e3671e369984587260da6d5ac563b", func := "clockwork/clockworklaw22.MvstoreScans", spec := "mvstoreScans", inPlace := ["slices.overlaps[clockwork/api.Row]"], unfollowed := true, recurses := true, apart := false, narrowed := true }
def MvstoreScansUptoSaid : Prop := mvstoreScansUptoRow.holds Try.pinned (OpenSpec.upto mvstoreScansSpec)

/-- 'clockworklaw22.MvstoreSnapshots', WHERE WHAT IT READS IS OF BULK AT MOST 1048576: true; the input reads as it did. -/
def mvstoreSnapshotsUptoRow : OpenClaim := { program := "ytobgbmklepcblaa", sum := "cbf2d768f852dd1f3cbf5bbe376fa1dcf06e3671e369984587260da6d5ac563b", func := "clockwork/clockworklaw22.MvstoreSnapshots", spec := "mvstoreSnapshots", inPlace := ["slices.overlaps[clockwork/api.Row]", "internal/bytealg.abigen_runtime_cmpstring"], unfollowed := true, recurses := true, apart := false, narrowed := true }
def MvstoreSnapshotsUptoSaid : Prop := mvstoreSnapshotsUptoRow.holds Try.pinned (OpenSpec.upto mvstoreSnapshotsSpec)

end Rows
end Go.Proofs.Ytobgbmklepcblaa
