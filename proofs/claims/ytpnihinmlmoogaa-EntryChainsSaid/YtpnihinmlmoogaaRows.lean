/-
  No cell of these rows narrows 'for every input' (looked for: loops, veiled, ifaces, maps, wideKeys, modest, calm, conditions, laid).
  DERIVED. THE GIVEN ROWS OF THIS SEAT. 7 by the template 'for every input the law returns true; each argument reads behind the call as it read before'; 0 by the template 'total and deterministic' (their statements: YtpnihinmlmoogaaTotals.lean).
  GIVEN WITH THE SEED: the statements are not yours to turn. If you find one false, say at which input.
  Laid BY PROGRAM, IN A SANDBOX (cutbox-rows.mjs): the forced cells as the released guide's own fill.sh prints them over the translation fc98c980434bb204… (all of the seat's roots in one cut). By AI agents, Wed Nov 11 2026. No macro, syntax, notation, axiom, sorry.
-/
import Derived.Test.YtpnihinmlmoogaaChecked
import GoSem.Claim
import GoSem.ClaimJoined
import GoSem.ClaimMapViews
import Derived.JoinedTies
import Derived.KernelRfl
namespace Go.Proofs.Ytpnihinmlmoogaa
/- THE CELL 'sum', in the pinned program and in every row, IS THE sha256 OF THE DUMP (.gsa) THAT YtpnihinmlmoogaaProg.lean LOADS. Nothing in Lean hashes anything: it is a label: what it is worth is what the hold of that sum in a sandbox is worth. -/
noncomputable def Try.pinned : Pinned := { name := "ytpnihinmlmoogaa", sum := "fc98c980434bb204ddf2fd25cbbdcc79283b11a2cebec91b65ed582511ea0b8c", checked := Try.checked }
namespace Rows
def none {H : Type} : Left H := { results := [], args := [] }

/-- 'clockworklaw39.EntryLimits': WHATEVER THE INPUT: true; the input reads as it did. -/
def entryLimitsSpec : ChangeSpec := { name := "entryLimits", fn := fun _ => fun
  | [d] => { results := [.lit (.bool true)], args := [d] }
  | _ => none }
def entryLimitsRow : OpenClaim := { program := "ytpnihinmlmoogaa", sum := "fc98c980434bb204ddf2fd25cbbdcc79283b11a2cebec91b65ed582511ea0b8c", func := "clockwork/clockworklaw39.EntryLimits", spec := "entryLimits", unfollowed := true, recurses := true, apart := false }
def EntryLimitsSaid : Prop := entryLimitsRow.holds Try.pinned (OpenSpec.ofChange entryLimitsSpec)

/-- ITS FALSE NEIGHBOUR: 'it returns false'. Refute it at one input. -/
def entryLimitsWrong : ChangeSpec := { name := "entryLimits", fn := fun _ => fun
  | [d] => { results := [.lit (.bool false)], args := [d] }
  | _ => none }
def EntryLimitsWrongFalsely : Prop := entryLimitsRow.holds Try.pinned (OpenSpec.ofChange entryLimitsWrong)

/-- 'clockworklaw39.EntryChains': WHATEVER THE INPUT: true; the input reads as it did. -/
def entryChainsSpec : ChangeSpec := { name := "entryChains", fn := fun _ => fun
  | [d1, d2] => { results := [.lit (.bool true)], args := [d1, d2] }
  | _ => none }
def entryChainsRow : OpenClaim := { program := "ytpnihinmlmoogaa", sum := "fc98c980434bb204ddf2fd25cbbdcc79283b11a2cebec91b65ed582511ea0b8c", func := "clockwork/clockworklaw39.EntryChains", spec := "entryChains", unfollowed := true, recurses := true, apart := false }
def EntryChainsSaid : Prop := entryChainsRow.holds Try.pinned (OpenSpec.ofChange entryChainsSpec)

/-- ITS FALSE NEIGHBOUR: 'it returns false'. Refute it at one input. -/
def entryChainsWrong : ChangeSpec := { name := "entryChains", fn := fun _ => fun
  | [d1, d2] => { results := [.lit (.bool false)], args := [d1, d2] }
  | _ => none }
def EntryChainsWrongFalsely : Prop := entryChainsRow.holds Try.pinned (OpenSpec.ofChange entryChainsWrong)

/-- 'clockworklaw39.EntryValidates': WHATEVER THE INPUT: true; the input reads as it did. -/
def entryValidatesSpec : ChangeSpec := { name := "entryValidates", fn := fun _ => fun
  | [d1, d2] => { results := [.lit (.bool true)], args := [d1, d2] }
  | _ => none }
def entryValidatesRow : OpenClaim := { program := "ytpnihinmlmoogaa", sum := "fc98c980434bb204ddf2fd25cbbdcc79283b11a2cebec91b65ed582511ea0b8c", func := "clockwork/clockworklaw39.EntryValidates", spec := "entryValidates", unfollowed := true, recurses := true, apart := false }
def EntryValidatesSaid : Prop := entryValidatesRow.holds Try.pinned (OpenSpec.ofChange entryValidatesSpec)

/-- ITS FALSE NEIGHBOUR: 'it returns false'. Refute it at one input. -/
def entryValidatesWrong : ChangeSpec := { name := "entryValidates", fn := fun _ => fun
  | [d1, d2] => { results := [.lit (.bool false)], args := [d1, d2] }
  | _ => none }
def EntryValidatesWrongFalsely : Prop := entryValidatesRow.holds Try.pinned (OpenSpec.ofChange entryValidatesWrong)

/-- 'clockworklaw39.EntryEncodes': WHATEVER THE INPUT: true; the input reads as it did. -/
def entryEncodesSpec : ChangeSpec := { name := "entryEncodes", fn := fun _ => fun
  | [d] => { results := [.lit (.bool true)], args := [d] }
  | _ => none }
def entryEncodesRow : OpenClaim := { program := "ytpnihinmlmoogaa", sum := "fc98c980434bb204ddf2fd25cbbdcc79283b11a2cebec91b65ed582511ea0b8c", func := "clockwork/clockworklaw39.EntryEncodes", spec := "entryEncodes", unfollowed := true, recurses := true, apart := false }
def EntryEncodesSaid : Prop := entryEncodesRow.holds Try.pinned (OpenSpec.ofChange entryEncodesSpec)

/-- ITS FALSE NEIGHBOUR: 'it returns false'. Refute it at one input. -/
def entryEncodesWrong : ChangeSpec := { name := "entryEncodes", fn := fun _ => fun
  | [d] => { results := [.lit (.bool false)], args := [d] }
  | _ => none }
def EntryEncodesWrongFalsely : Prop := entryEncodesRow.holds Try.pinned (OpenSpec.ofChange entryEncodesWrong)

/-- 'clockworklaw39.EntryDecodes': WHATEVER THE INPUT: true; the input reads as it did. -/
def entryDecodesSpec : ChangeSpec := { name := "entryDecodes", fn := fun _ => fun
  | [d] => { results := [.lit (.bool true)], args := [d] }
  | _ => none }
def entryDecodesRow : OpenClaim := { program := "ytpnihinmlmoogaa", sum := "fc98c980434bb204ddf2fd25cbbdcc79283b11a2cebec91b65ed582511ea0b8c", func := "clockwork/clockworklaw39.EntryDecodes", spec := "entryDecodes", unfollowed := true, recurses := true, apart := false }
def EntryDecodesSaid : Prop := entryDecodesRow.holds Try.pinned (OpenSpec.ofChange entryDecodesSpec)

/-- ITS FALSE NEIGHBOUR: 'it returns false'. Refute it at one input. -/
def entryDecodesWrong : ChangeSpec := { name := "entryDecodes", fn := fun _ => fun
  | [d] => { results := [.lit (.bool false)], args := [d] }
  | _ => none }
def EntryDecodesWrongFalsely : Prop := entryDecodesRow.holds Try.pinned (OpenSpec.ofChange entryDecodesWrong)

/-- 'clockworklaw39.EntryRoundTrips': WHATEVER THE INPUT: true; the input reads as it did. -/
def entryRoundTripsSpec : ChangeSpec := { name := "entryRoundTrips", fn := fun _ => fun
  | [d1, d2] => { results := [.lit (.bool true)], args := [d1, d2] }
  | _ => none }
def entryRoundTripsRow : OpenClaim := { program := "ytpnihinmlmoogaa", sum := "fc98c980434bb204ddf2fd25cbbdcc79283b11a2cebec91b65ed582511ea0b8c", func := "clockwork/clockworklaw39.EntryRoundTrips", spec := "entryRoundTrips", unfollowed := true, recurses := true, apart := false }
def EntryRoundTripsSaid : Prop := entryRoundTripsRow.holds Try.pinned (OpenSpec.ofChange entryRoundTripsSpec)

/-- ITS FALSE NEIGHBOUR: 'it returns false'. Refute it at one input. -/
def entryRoundTripsWrong : ChangeSpec := { name := "entryRoundTrips", fn := fun _ => fun
  | [d1, d2] => { results := [.lit (.bool false)], args := [d1, d2] }
  | _ => none }
def EntryRoundTripsWrongFalsely : Prop := entryRoundTripsRow.holds Try.pinned (OpenSpec.ofChange entryRoundTripsWrong)

/-- 'clockworklaw39.EntryDistinct': WHATEVER THE INPUT: true; the input reads as it did. -/
def entryDistinctSpec : ChangeSpec := { name := "entryDistinct", fn := fun _ => fun
  | [d1, d2] => { results := [.lit (.bool true)], args := [d1, d2] }
  | _ => none }
def entryDistinctRow : OpenClaim := { program := "ytpnihinmlmoogaa", sum := "fc98c980434bb204ddf2fd25cbbdcc79283b11a2cebec91b65ed582511ea0b8c", func := "clockwork/clockworklaw39.EntryDistinct", spec := "entryDistinct", unfollowed := true, recurses := true, apart := false }
def EntryDistinctSaid : Prop := entryDistinctRow.holds Try.pinned (OpenSpec.ofChange entryDistinctSpec)

/-- ITS FALSE NEIGHBOUR: 'it returns false'. Refute it at one input. -/
def entryDistinctWrong : ChangeSpec := { name := "entryDistinct", fn := fun _ => fun
  | [d1, d2] => { results := [.lit (.bool false)], args := [d1, d2] }
  | _ => none }
def EntryDistinctWrongFalsely : Prop := entryDistinctRow.holds Try.pinned (OpenSpec.ofChange entryDistinctWrong)

/- THE SECOND FORM. 'bulk': how many values and letters a reading holds, each counted each time it is reached (what is shared counts as often as it is met; a slice's spare places count too). A statement '..UptoSaid' is the law's where the arguments, and the package variables that the reading takes, are together of bulk at most 1048576: NARROWER than '..Said'. Prove '..Said' where nothing that the law and all that it calls make is longer than what came in: it says more and counts as full. Else prove '..UptoSaid'. A law counts once. -/
mutual
def uptoBulk {H : Type} : DataW H → Nat
  | .lit (.string bytes) => bytes.length + 1
  | .lit _ => 1
  | .nil => 1
  | .ptr d => uptoBulk d + 1
  | .slice elems spare => uptoBulkAll elems + uptoBulkAll spare + 1
  | .agg parts => uptoBulkAll parts + 1
  | .iface _ d => uptoBulk d + 1
  | .map entries => uptoBulkEntries entries + 1
  | .held _ => 1
def uptoBulkAll {H : Type} : List (DataW H) → Nat
  | [] => 0
  | d :: r => uptoBulk d + uptoBulkAll r
def uptoBulkEntries {H : Type} : List (Lit × DataW H) → Nat
  | [] => 0
  | x :: r => uptoBulkEntry x + uptoBulkEntries r
def uptoBulkEntry {H : Type} : Lit × DataW H → Nat
  | (.string bytes, d) => bytes.length + uptoBulk d + 1
  | (_, d) => uptoBulk d + 1
 end
def uptoSmall : (H : Type) → List (DataW H) → Bool := fun _ ds => decide (uptoBulkAll ds ≤ 1048576)
def OpenSpec.upto (s : _root_.Go.ChangeSpec) : _root_.Go.OpenSpec := { _root_.Go.OpenSpec.ofChange s with cond := some uptoSmall }

/-- 'clockworklaw39.EntryLimits', WHERE WHAT IT READS IS OF BULK AT MOST 1048576: true; the input reads as it did. -/
def entryLimitsUptoRow : OpenClaim := { program := "ytpnihinmlmoogaa", sum := "fc98c980434bb204ddf2fd25cbbdcc79283b11a2cebec91b65ed582511ea0b8c", func := "clockwork/clockworklaw39.EntryLimits", spec := "entryLimits", unfollowed := true, recurses := true, apart := false, narrowed := true }
def EntryLimitsUptoSaid : Prop := entryLimitsUptoRow.holds Try.pinned (OpenSpec.upto entryLimitsSpec)

/-- 'clockworklaw39.EntryChains', WHERE WHAT IT READS IS OF BULK AT MOST 1048576: true; the input reads as it did. -/
def entryChainsUptoRow : OpenClaim := { program := "ytpnihinmlmoogaa", sum := "fc98c980434bb204ddf2fd25cbbdcc79283b11a2cebec91b65ed582511ea0b8c", func := "clockwork/clockworklaw39.EntryChains", spec := "entryChains", unfollowed := true, recurses := true, apart := false, narrowed := true }
def EntryChainsUptoSaid : Prop := entryChainsUptoRow.holds Try.pinned (OpenSpec.upto entryChainsSpec)

/-- 'clockworklaw39.EntryValidates', WHERE WHAT IT READS IS OF BULK AT MOST 1048576: true; the input reads as it did. -/
def entryValidatesUptoRow : OpenClaim := { program := "ytpnihinmlmoogaa", sum := "fc98c980434bb204ddf2fd25cbbdcc79283b11a2cebec91b65ed582511ea0b8c", func := "clockwork/clockworklaw39.EntryValidates", spec := "entryValidates", unfollowed := true, recurses := true, apart := false, narrowed := true }
def EntryValidatesUptoSaid : Prop := entryValidatesUptoRow.holds Try.pinned (OpenSpec.upto entryValidatesSpec)

/-- 'clockworklaw39.EntryEncodes', WHERE WHAT IT READS IS OF BULK AT MOST 1048576: true; the input reads as it did. -/
def entryEncodesUptoRow : OpenClaim := { program := "ytpnihinmlmoogaa", sum := "fc98c980434bb204ddf2fd25cbbdcc79283b11a2cebec91b65ed582511ea0b8c", func := "clockwork/clockworklaw39.EntryEncodes", spec := "entryEncodes", unfollowed := true, recurses := true, apart := false, narrowed := true }
def EntryEncodesUptoSaid : Prop := entryEncodesUptoRow.holds Try.pinned (OpenSpec.upto entryEncodesSpec)

/-- 'clockworklaw39.EntryDecodes', WHERE WHAT IT READS IS OF BULK AT MOST 1048576: true; the input reads as it did. -/
def entryDecodesUptoRow : OpenClaim := { program := "ytpnihinmlmoogaa", sum := "fc98c980434bb204ddf2fd25cbbdcc79283b11a2cebec91b65ed582511ea0b8c", func := "clockwork/clockworklaw39.EntryDecodes", spec := "entryDecodes", unfollowed := true, recurses := true, apart := false, narrowed := true }
def EntryDecodesUptoSaid : Prop := entryDecodesUptoRow.holds Try.pinned (OpenSpec.upto entryDecodesSpec)

/-- 'clockworklaw39.EntryRoundTrips', WHERE WHAT IT READS IS OF BULK AT MOST 1048576: true; the input reads as it did. -/
def entryRoundTripsUptoRow : OpenClaim := { program := "ytpnihinmlmoogaa", sum := "fc98c980434bb204ddf2fd25cbbdcc79283b11a2cebec91b65ed582511ea0b8c", func := "clockwork/clockworklaw39.EntryRoundTrips", spec := "entryRoundTrips", unfollowed := true, recurses := true, apart := false, narrowed := true }
def EntryRoundTripsUptoSaid : Prop := entryRoundTripsUptoRow.holds Try.pinned (OpenSpec.upto entryRoundTripsSpec)

/-- 'clockworklaw39.EntryDistinct', WHERE WHAT IT READS IS OF BULK AT MOST 1048576: true; the input reads as it did. -/
def entryDistinctUptoRow : OpenClaim := { program := "ytpnihinmlmoogaa", sum := "fc98c980434bb204ddf2fd25cbbdcc79283b11a2cebec91b65ed582511ea0b8c", func := "clockwork/clockworklaw39.EntryDistinct", spec := "entryDistinct", unfollowed := true, recurses := true, apart := false, narrowed := true }
def EntryDistinctUptoSaid : Prop := entryDistinctUptoRow.holds Try.pinned (OpenSpec.upto entryDistinctSpec)

end Rows
end Go.Proofs.Ytpnihinmlmoogaa
