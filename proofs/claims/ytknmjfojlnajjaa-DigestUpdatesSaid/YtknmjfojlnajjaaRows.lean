/-
  No cell of these rows narrows 'for every input' (looked for: loops, veiled, ifaces, maps, wideKeys, modest, calm, conditions, laid).
  DERIVED. THE GIVEN ROWS OF THIS SEAT. 6 by the template 'for every input the law returns true; each argument reads behind the call as it read before'; 0 by the template 'total and deterministic' (their statements: YtknmjfojlnajjaaTotals.lean).
  GIVEN WITH THE SEED: the statements are not yours to turn. If you find one false, say at which input.
  Laid BY PROGRAM, IN A SANDBOX (cutbox-rows.mjs): the forced cells as the released guide's own fill.sh prints them over the translation 42f53d3e319209ff… (all of the seat's roots in one cut). By AI agents, Wed Nov 11 2026. No macro, syntax, notation, axiom, sorry.
-/
import Derived.Test.YtknmjfojlnajjaaChecked
import GoSem.Claim
import GoSem.ClaimJoined
import GoSem.ClaimMapViews
import Derived.JoinedTies
import Derived.KernelRfl
namespace Go.Proofs.Ytknmjfojlnajjaa
/- THE CELL 'sum', in the pinned program and in every row, IS THE sha256 OF THE DUMP (.gsa) THAT YtknmjfojlnajjaaProg.lean LOADS. Nothing in Lean hashes anything: it is a label: what it is worth is what the hold of that sum in a sandbox is worth. -/
noncomputable def Try.pinned : Pinned := { name := "ytknmjfojlnajjaa", sum := "42f53d3e319209ff33f32e298b98db09b09234a94ab8eb00079cc431bc842f7c", checked := Try.checked }
namespace Rows
def none {H : Type} : Left H := { results := [], args := [] }

/-- 'clockworklaw53.DigestTrees': WHATEVER THE INPUT: true; the input reads as it did. -/
def digestTreesSpec : ChangeSpec := { name := "digestTrees", fn := fun _ => fun
  | [d1, d2] => { results := [.lit (.bool true)], args := [d1, d2] }
  | _ => none }
def digestTreesRow : OpenClaim := { program := "ytknmjfojlnajjaa", sum := "42f53d3e319209ff33f32e298b98db09b09234a94ab8eb00079cc431bc842f7c", func := "clockwork/clockworklaw53.DigestTrees", spec := "digestTrees", unfollowed := true, recurses := true, apart := false }
def DigestTreesSaid : Prop := digestTreesRow.holds Try.pinned (OpenSpec.ofChange digestTreesSpec)

/-- ITS FALSE NEIGHBOUR: 'it returns false'. Refute it at one input. -/
def digestTreesWrong : ChangeSpec := { name := "digestTrees", fn := fun _ => fun
  | [d1, d2] => { results := [.lit (.bool false)], args := [d1, d2] }
  | _ => none }
def DigestTreesWrongFalsely : Prop := digestTreesRow.holds Try.pinned (OpenSpec.ofChange digestTreesWrong)

/-- 'clockworklaw53.DigestChanges': WHATEVER THE INPUT: true; the input reads as it did. -/
def digestChangesSpec : ChangeSpec := { name := "digestChanges", fn := fun _ => fun
  | [d1, d2, d3] => { results := [.lit (.bool true)], args := [d1, d2, d3] }
  | _ => none }
def digestChangesRow : OpenClaim := { program := "ytknmjfojlnajjaa", sum := "42f53d3e319209ff33f32e298b98db09b09234a94ab8eb00079cc431bc842f7c", func := "clockwork/clockworklaw53.DigestChanges", spec := "digestChanges", unfollowed := true, recurses := true, apart := false }
def DigestChangesSaid : Prop := digestChangesRow.holds Try.pinned (OpenSpec.ofChange digestChangesSpec)

/-- ITS FALSE NEIGHBOUR: 'it returns false'. Refute it at one input. -/
def digestChangesWrong : ChangeSpec := { name := "digestChanges", fn := fun _ => fun
  | [d1, d2, d3] => { results := [.lit (.bool false)], args := [d1, d2, d3] }
  | _ => none }
def DigestChangesWrongFalsely : Prop := digestChangesRow.holds Try.pinned (OpenSpec.ofChange digestChangesWrong)

/-- 'clockworklaw53.DigestDiffs': WHATEVER THE INPUT: true; the input reads as it did. -/
def digestDiffsSpec : ChangeSpec := { name := "digestDiffs", fn := fun _ => fun
  | [d1, d2] => { results := [.lit (.bool true)], args := [d1, d2] }
  | _ => none }
def digestDiffsRow : OpenClaim := { program := "ytknmjfojlnajjaa", sum := "42f53d3e319209ff33f32e298b98db09b09234a94ab8eb00079cc431bc842f7c", func := "clockwork/clockworklaw53.DigestDiffs", spec := "digestDiffs", unfollowed := true, recurses := true, apart := false }
def DigestDiffsSaid : Prop := digestDiffsRow.holds Try.pinned (OpenSpec.ofChange digestDiffsSpec)

/-- ITS FALSE NEIGHBOUR: 'it returns false'. Refute it at one input. -/
def digestDiffsWrong : ChangeSpec := { name := "digestDiffs", fn := fun _ => fun
  | [d1, d2] => { results := [.lit (.bool false)], args := [d1, d2] }
  | _ => none }
def DigestDiffsWrongFalsely : Prop := digestDiffsRow.holds Try.pinned (OpenSpec.ofChange digestDiffsWrong)

/-- 'clockworklaw53.DigestPairs': WHATEVER THE INPUT: true; the input reads as it did. -/
def digestPairsSpec : ChangeSpec := { name := "digestPairs", fn := fun _ => fun
  | [d1, d2, d3] => { results := [.lit (.bool true)], args := [d1, d2, d3] }
  | _ => none }
def digestPairsRow : OpenClaim := { program := "ytknmjfojlnajjaa", sum := "42f53d3e319209ff33f32e298b98db09b09234a94ab8eb00079cc431bc842f7c", func := "clockwork/clockworklaw53.DigestPairs", spec := "digestPairs", unfollowed := true, recurses := true, apart := false }
def DigestPairsSaid : Prop := digestPairsRow.holds Try.pinned (OpenSpec.ofChange digestPairsSpec)

/-- ITS FALSE NEIGHBOUR: 'it returns false'. Refute it at one input. -/
def digestPairsWrong : ChangeSpec := { name := "digestPairs", fn := fun _ => fun
  | [d1, d2, d3] => { results := [.lit (.bool false)], args := [d1, d2, d3] }
  | _ => none }
def DigestPairsWrongFalsely : Prop := digestPairsRow.holds Try.pinned (OpenSpec.ofChange digestPairsWrong)

/-- 'clockworklaw53.DigestOrder': WHATEVER THE INPUT: true; the input reads as it did. -/
def digestOrderSpec : ChangeSpec := { name := "digestOrder", fn := fun _ => fun
  | [d1, d2] => { results := [.lit (.bool true)], args := [d1, d2] }
  | _ => none }
def digestOrderRow : OpenClaim := { program := "ytknmjfojlnajjaa", sum := "42f53d3e319209ff33f32e298b98db09b09234a94ab8eb00079cc431bc842f7c", func := "clockwork/clockworklaw53.DigestOrder", spec := "digestOrder", unfollowed := true, recurses := true, apart := false }
def DigestOrderSaid : Prop := digestOrderRow.holds Try.pinned (OpenSpec.ofChange digestOrderSpec)

/-- ITS FALSE NEIGHBOUR: 'it returns false'. Refute it at one input. -/
def digestOrderWrong : ChangeSpec := { name := "digestOrder", fn := fun _ => fun
  | [d1, d2] => { results := [.lit (.bool false)], args := [d1, d2] }
  | _ => none }
def DigestOrderWrongFalsely : Prop := digestOrderRow.holds Try.pinned (OpenSpec.ofChange digestOrderWrong)

/-- 'clockworklaw53.DigestUpdates': WHATEVER THE INPUT: true; the input reads as it did. -/
def digestUpdatesSpec : ChangeSpec := { name := "digestUpdates", fn := fun _ => fun
  | [d1, d2] => { results := [.lit (.bool true)], args := [d1, d2] }
  | _ => none }
def digestUpdatesRow : OpenClaim := { program := "ytknmjfojlnajjaa", sum := "42f53d3e319209ff33f32e298b98db09b09234a94ab8eb00079cc431bc842f7c", func := "clockwork/clockworklaw53.DigestUpdates", spec := "digestUpdates", inPlace := ["internal/bytealg.abigen_runtime_cmpstring"], unfollowed := true, recurses := true, apart := false }
def DigestUpdatesSaid : Prop := digestUpdatesRow.holds Try.pinned (OpenSpec.ofChange digestUpdatesSpec)

/-- ITS FALSE NEIGHBOUR: 'it returns false'. Refute it at one input. -/
def digestUpdatesWrong : ChangeSpec := { name := "digestUpdates", fn := fun _ => fun
  | [d1, d2] => { results := [.lit (.bool false)], args := [d1, d2] }
  | _ => none }
def DigestUpdatesWrongFalsely : Prop := digestUpdatesRow.holds Try.pinned (OpenSpec.ofChange digestUpdatesWrong)

/- THE SECOND FORM. 'bulk': how many values and letters a reading holds, each counted each time it is reached (what is shared counts as often as it is met; a slice's spare places count too). A statement '..UptoSaid' is the law's where the arguments, and the package variables that the reading takes, are together of bulk at most 1048576: NARROWER than '..Said'. Prove '..Said' where nothing that the law and all that it calls make is longer than what came in: it says more and counts as full. Else prove '..UptoSaid'. A law counts once. -/
mutual
def uptoBulk {H : Type} : DataW H → Nat
  | .lit (.string bytes) => bytes.length + 1
  | .lit _ => 1
  | .nil => 1
  | .ptr d => uptoBulk d + 1
  | .slice elems spare => uptoBulkAll elems + uptoBulkAll spare + 1
  | .agg parts => uptoBulkAll parts + 1
  | .iface _ d => uptoBulk d + 1
  | .map entries => uptoBulkEntries entries + 1
  | .held _ => 1
def uptoBulkAll {H : Type} : List (DataW H) → Nat
  | [] => 0
  | d :: r => uptoBulk d + uptoBulkAll r
def uptoBulkEntries {H : Type} : List (Lit × DataW H) → Nat
  | [] => 0
  | x :: r => uptoBulkEntry x + uptoBulkEntries r
def uptoBulkEntry {H : Type} : Lit × DataW H → Nat
  | (.string bytes, d) => bytes.length + uptoBulk d + 1
  | (_, d) => uptoBulk d + 1
 end
def uptoSmall : (H : Type) → List (DataW H) → Bool := fun _ ds => decide (uptoBulkAll ds ≤ 1048576)
def OpenSpec.upto (s : _root_.Go.ChangeSpec) : _root_.Go.OpenSpec := { _root_.Go.OpenSpec.ofChange s with cond := some uptoSmall }

/-- 'clockworklaw53.DigestTrees', WHERE WHAT IT READS IS OF BULK AT MOST 1048576: true; the input reads as it did. -/
def digestTreesUptoRow : OpenClaim := { program := "ytknmjfojlnajjaa", sum := "42f53d3e319209ff33f32e298b98db09b09234a94ab8eb00079cc431bc842f7c", func := "clockwork/clockworklaw53.DigestTrees", spec := "digestTrees", unfollowed := true, recurses := true, apart := false, narrowed := true }
def DigestTreesUptoSaid : Prop := digestTreesUptoRow.holds Try.pinned (OpenSpec.upto digestTreesSpec)

/-- 'clockworklaw53.DigestChanges', WHERE WHAT IT READS IS OF BULK AT MOST 1048576: true; the input reads as it did. -/
def digestChangesUptoRow : OpenClaim := { program := "ytknmjfojlnajjaa", sum := "42f53d3e319209ff33f32e298b98db09b09234a94ab8eb00079cc431bc842f7c", func := "clockwork/clockworklaw53.DigestChanges", spec := "digestChanges", unfollowed := true, recurses := true, apart := false, narrowed := true }
def DigestChangesUptoSaid : Prop := digestChangesUptoRow.holds Try.pinned (OpenSpec.upto digestChangesSpec)

/-- 'clockworklaw53.DigestDiffs', WHERE WHAT IT READS IS OF BULK AT MOST 1048576: true; the input reads as it did. -/
def digestDiffsUptoRow : OpenClaim := { program := "ytknmjfojlnajjaa", sum := "42f53d3e319209ff33f32e298b98db09b09234a94ab8eb00079cc431bc842f7c", func := "clockwork/clockworklaw53.DigestDiffs", spec := "digestDiffs", unfollowed := true, recurses := true, apart := false, narrowed := true }
def DigestDiffsUptoSaid : Prop := digestDiffsUptoRow.holds Try.pinned (OpenSpec.upto digestDiffsSpec)

/-- 'clockworklaw53.DigestPairs', WHERE WHAT IT READS IS OF BULK AT MOST 1048576: true; the input reads as it did. -/
def digestPairsUptoRow : OpenClaim := { program := "ytknmjfojlnajjaa", sum := "42f53d3e319209ff33f32e298b98db09b09234a94ab8eb00079cc431bc842f7c", func := "clockwork/clockworklaw53.DigestPairs", spec := "digestPairs", unfollowed := true, recurses := true, apart := false, narrowed := true }
def DigestPairsUptoSaid : Prop := digestPairsUptoRow.holds Try.pinned (OpenSpec.upto digestPairsSpec)

/-- 'clockworklaw53.DigestOrder', WHERE WHAT IT READS IS OF BULK AT MOST 1048576: true; the input reads as it did. -/
def digestOrderUptoRow : OpenClaim := { program := "ytknmjfojlnajjaa", sum := "42f53d3e319209ff33f32e298b98db09b09234a94ab8eb00079cc431bc842f7c", func := "clockwork/clockworklaw53.DigestOrder", spec := "digestOrder", unfollowed := true, recurses := true, apart := false, narrowed := true }
def DigestOrderUptoSaid : Prop := digestOrderUptoRow.holds Try.pinned (OpenSpec.upto digestOrderSpec)

/-- 'clockworklaw53.DigestUpdates', WHERE WHAT IT READS IS OF BULK AT MOST 1048576: true; the input reads as it did. -/
def digestUpdatesUptoRow : OpenClaim := { program := "ytknmjfojlnajjaa", sum := "42f53d3e319209ff33f32e298b98db09b09234a94ab8eb00079cc431bc842f7c", func := "clockwork/clockworklaw53.DigestUpdates", spec := "digestUpdates", inPlace := ["internal/bytealg.abigen_runtime_cmpstring"], unfollowed := true, recurses := true, apart := false, narrowed := true }
def DigestUpdatesUptoSaid : Prop := digestUpdatesUptoRow.holds Try.pinned (OpenSpec.upto digestUpdatesSpec)

end Rows
end Go.Proofs.Ytknmjfojlnajjaa
