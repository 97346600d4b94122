/-
  No cell of these rows narrows 'for every input' (looked for: loops, veiled, ifaces, maps, wideKeys, modest, calm, conditions, laid).
  DERIVED. THE GIVEN ROWS OF THIS SEAT. 8 by the template 'for every input the law returns true; each argument reads behind the call as it read before'; 0 by the template 'total and deterministic' (their statements: YtgpcfdgdfejmmaaTotals.lean).
  GIVEN WITH THE SEED: the statements are not yours to turn. If you find one false, say at which input.
  Laid BY PROGRAM, IN A SANDBOX (cutbox-rows.mjs): the forced cells as the released guide's own fill.sh prints them over the translation 085d41b2c47ff866… (all of the seat's roots in one cut). By AI agents, Wed Nov 11 2026. No macro, syntax, notation, axiom, sorry.
-/
import Derived.Test.YtgpcfdgdfejmmaaChecked
import GoSem.Claim
import GoSem.ClaimJoined
import GoSem.ClaimMapViews
import Derived.JoinedTies
import Derived.KernelRfl
namespace Go.Proofs.Ytgpcfdgdfejmmaa
/- THE CELL 'sum', in the pinned program and in every row, IS THE sha256 OF THE DUMP (.gsa) THAT YtgpcfdgdfejmmaaProg.lean LOADS. Nothing in Lean hashes anything: it is a label: what it is worth is what the hold of that sum in a sandbox is worth. -/
noncomputable def Try.pinned : Pinned := { name := "ytgpcfdgdfejmmaa", sum := "085d41b2c47ff866ec2cc5c3dde555abc35312ff9a46bf5c54aca0186aa0a6f2", checked := Try.checked }
namespace Rows
def none {H : Type} : Left H := { results := [], args := [] }

/-- 'clockworklaw02.WireEncodes': WHATEVER THE INPUT: true; the input reads as it did. -/
def wireEncodesSpec : ChangeSpec := { name := "wireEncodes", fn := fun _ => fun
  | [d1, d2, d3] => { results := [.lit (.bool true)], args := [d1, d2, d3] }
  | _ => none }
def wireEncodesRow : OpenClaim := { program := "ytgpcfdgdfejmmaa", sum := "085d41b2c47ff866ec2cc5c3dde555abc35312ff9a46bf5c54aca0186aa0a6f2", func := "clockwork/clockworklaw02.WireEncodes", spec := "wireEncodes", apart := false }
def WireEncodesSaid : Prop := wireEncodesRow.holds Try.pinned (OpenSpec.ofChange wireEncodesSpec)

/-- ITS FALSE NEIGHBOUR: 'it returns false'. Refute it at one input. -/
def wireEncodesWrong : ChangeSpec := { name := "wireEncodes", fn := fun _ => fun
  | [d1, d2, d3] => { results := [.lit (.bool false)], args := [d1, d2, d3] }
  | _ => none }
def WireEncodesWrongFalsely : Prop := wireEncodesRow.holds Try.pinned (OpenSpec.ofChange wireEncodesWrong)

/-- 'clockworklaw02.WireTakesText': WHATEVER THE INPUT: true; the input reads as it did. -/
def wireTakesTextSpec : ChangeSpec := { name := "wireTakesText", fn := fun _ => fun
  | [d1, d2, d3] => { results := [.lit (.bool true)], args := [d1, d2, d3] }
  | _ => none }
def wireTakesTextRow : OpenClaim := { program := "ytgpcfdgdfejmmaa", sum := "085d41b2c47ff866ec2cc5c3dde555abc35312ff9a46bf5c54aca0186aa0a6f2", func := "clockwork/clockworklaw02.WireTakesText", spec := "wireTakesText", apart := false }
def WireTakesTextSaid : Prop := wireTakesTextRow.holds Try.pinned (OpenSpec.ofChange wireTakesTextSpec)

/-- ITS FALSE NEIGHBOUR: 'it returns false'. Refute it at one input. -/
def wireTakesTextWrong : ChangeSpec := { name := "wireTakesText", fn := fun _ => fun
  | [d1, d2, d3] => { results := [.lit (.bool false)], args := [d1, d2, d3] }
  | _ => none }
def WireTakesTextWrongFalsely : Prop := wireTakesTextRow.holds Try.pinned (OpenSpec.ofChange wireTakesTextWrong)

/-- 'clockworklaw02.WirePrefixes': WHATEVER THE INPUT: true; the input reads as it did. -/
def wirePrefixesSpec : ChangeSpec := { name := "wirePrefixes", fn := fun _ => fun
  | [d1, d2] => { results := [.lit (.bool true)], args := [d1, d2] }
  | _ => none }
def wirePrefixesRow : OpenClaim := { program := "ytgpcfdgdfejmmaa", sum := "085d41b2c47ff866ec2cc5c3dde555abc35312ff9a46bf5c54aca0186aa0a6f2", func := "clockwork/clockworklaw02.WirePrefixes", spec := "wirePrefixes", apart := false }
def WirePrefixesSaid : Prop := wirePrefixesRow.holds Try.pinned (OpenSpec.ofChange wirePrefixesSpec)

/-- ITS FALSE NEIGHBOUR: 'it returns false'. Refute it at one input. -/
def wirePrefixesWrong : ChangeSpec := { name := "wirePrefixes", fn := fun _ => fun
  | [d1, d2] => { results := [.lit (.bool false)], args := [d1, d2] }
  | _ => none }
def WirePrefixesWrongFalsely : Prop := wirePrefixesRow.holds Try.pinned (OpenSpec.ofChange wirePrefixesWrong)

/-- 'clockworklaw02.WireShifts': WHATEVER THE INPUT: true; the input reads as it did. -/
def wireShiftsSpec : ChangeSpec := { name := "wireShifts", fn := fun _ => fun
  | [d1, d2] => { results := [.lit (.bool true)], args := [d1, d2] }
  | _ => none }
def wireShiftsRow : OpenClaim := { program := "ytgpcfdgdfejmmaa", sum := "085d41b2c47ff866ec2cc5c3dde555abc35312ff9a46bf5c54aca0186aa0a6f2", func := "clockwork/clockworklaw02.WireShifts", spec := "wireShifts", apart := false }
def WireShiftsSaid : Prop := wireShiftsRow.holds Try.pinned (OpenSpec.ofChange wireShiftsSpec)

/-- ITS FALSE NEIGHBOUR: 'it returns false'. Refute it at one input. -/
def wireShiftsWrong : ChangeSpec := { name := "wireShifts", fn := fun _ => fun
  | [d1, d2] => { results := [.lit (.bool false)], args := [d1, d2] }
  | _ => none }
def WireShiftsWrongFalsely : Prop := wireShiftsRow.holds Try.pinned (OpenSpec.ofChange wireShiftsWrong)

/-- 'clockworklaw02.WireSizes': WHATEVER THE INPUT: true; the input reads as it did. -/
def wireSizesSpec : ChangeSpec := { name := "wireSizes", fn := fun _ => fun
  | [d1, d2] => { results := [.lit (.bool true)], args := [d1, d2] }
  | _ => none }
def wireSizesRow : OpenClaim := { program := "ytgpcfdgdfejmmaa", sum := "085d41b2c47ff866ec2cc5c3dde555abc35312ff9a46bf5c54aca0186aa0a6f2", func := "clockwork/clockworklaw02.WireSizes", spec := "wireSizes", apart := false }
def WireSizesSaid : Prop := wireSizesRow.holds Try.pinned (OpenSpec.ofChange wireSizesSpec)

/-- ITS FALSE NEIGHBOUR: 'it returns false'. Refute it at one input. -/
def wireSizesWrong : ChangeSpec := { name := "wireSizes", fn := fun _ => fun
  | [d1, d2] => { results := [.lit (.bool false)], args := [d1, d2] }
  | _ => none }
def WireSizesWrongFalsely : Prop := wireSizesRow.holds Try.pinned (OpenSpec.ofChange wireSizesWrong)

/-- 'clockworklaw02.WireLimits': WHATEVER THE INPUT: true; the input reads as it did. -/
def wireLimitsSpec : ChangeSpec := { name := "wireLimits", fn := fun _ => fun
  | [d] => { results := [.lit (.bool true)], args := [d] }
  | _ => none }
def wireLimitsRow : OpenClaim := { program := "ytgpcfdgdfejmmaa", sum := "085d41b2c47ff866ec2cc5c3dde555abc35312ff9a46bf5c54aca0186aa0a6f2", func := "clockwork/clockworklaw02.WireLimits", spec := "wireLimits", apart := false }
def WireLimitsSaid : Prop := wireLimitsRow.holds Try.pinned (OpenSpec.ofChange wireLimitsSpec)

/-- ITS FALSE NEIGHBOUR: 'it returns false'. Refute it at one input. -/
def wireLimitsWrong : ChangeSpec := { name := "wireLimits", fn := fun _ => fun
  | [d] => { results := [.lit (.bool false)], args := [d] }
  | _ => none }
def WireLimitsWrongFalsely : Prop := wireLimitsRow.holds Try.pinned (OpenSpec.ofChange wireLimitsWrong)

/-- 'clockworklaw02.WireTakes': WHATEVER THE INPUT: true; the input reads as it did. -/
def wireTakesSpec : ChangeSpec := { name := "wireTakes", fn := fun _ => fun
  | [d1, d2] => { results := [.lit (.bool true)], args := [d1, d2] }
  | _ => none }
def wireTakesRow : OpenClaim := { program := "ytgpcfdgdfejmmaa", sum := "085d41b2c47ff866ec2cc5c3dde555abc35312ff9a46bf5c54aca0186aa0a6f2", func := "clockwork/clockworklaw02.WireTakes", spec := "wireTakes", apart := false }
def WireTakesSaid : Prop := wireTakesRow.holds Try.pinned (OpenSpec.ofChange wireTakesSpec)

/-- ITS FALSE NEIGHBOUR: 'it returns false'. Refute it at one input. -/
def wireTakesWrong : ChangeSpec := { name := "wireTakes", fn := fun _ => fun
  | [d1, d2] => { results := [.lit (.bool false)], args := [d1, d2] }
  | _ => none }
def WireTakesWrongFalsely : Prop := wireTakesRow.holds Try.pinned (OpenSpec.ofChange wireTakesWrong)

/-- 'clockworklaw02.WireRoundTrips': WHATEVER THE INPUT: true; the input reads as it did. -/
def wireRoundTripsSpec : ChangeSpec := { name := "wireRoundTrips", fn := fun _ => fun
  | [d1, d2, d3] => { results := [.lit (.bool true)], args := [d1, d2, d3] }
  | _ => none }
def wireRoundTripsRow : OpenClaim := { program := "ytgpcfdgdfejmmaa", sum := "085d41b2c47ff866ec2cc5c3dde555abc35312ff9a46bf5c54aca0186aa0a6f2", func := "clockwork/clockworklaw02.WireRoundTrips", spec := "wireRoundTrips", apart := false }
def WireRoundTripsSaid : Prop := wireRoundTripsRow.holds Try.pinned (OpenSpec.ofChange wireRoundTripsSpec)

/-- ITS FALSE NEIGHBOUR: 'it returns false'. Refute it at one input. -/
def wireRoundTripsWrong : ChangeSpec := { name := "wireRoundTrips", fn := fun _ => fun
  | [d1, d2, d3] => { results := [.lit (.bool false)], args := [d1, d2, d3] }
  | _ => none }
def WireRoundTripsWrongFalsely : Prop := wireRoundTripsRow.holds Try.pinned (OpenSpec.ofChange wireRoundTripsWrong)

/- THE SECOND FORM. 'bulk': how many values and letters a reading holds, each counted each time it is reached (what is shared counts as often as it is met; a slice's spare places count too). A statement '..UptoSaid' is the law's where the arguments, and the package variables that the reading takes, are together of bulk at most 1048576: NARROWER than '..Said'. Prove '..Said' where nothing that the law and all that it calls make is longer than what came in: it says more and counts as full. Else prove '..UptoSaid'. A law counts once. -/
mutual
def uptoBulk {H : Type} : DataW H → Nat
  | .lit (.string bytes) => bytes.length + 1
  | .lit _ => 1
  | .nil => 1
  | .ptr d => uptoBulk d + 1
  | .slice elems spare => uptoBulkAll elems + uptoBulkAll spare + 1
  | .agg parts => uptoBulkAll parts + 1
  | .iface _ d => uptoBulk d + 1
  | .map entries => uptoBulkEntries entries + 1
  | .held _ => 1
def uptoBulkAll {H : Type} : List (DataW H) → Nat
  | [] => 0
  | d :: r => uptoBulk d + uptoBulkAll r
def uptoBulkEntries {H : Type} : List (Lit × DataW H) → Nat
  | [] => 0
  | x :: r => uptoBulkEntry x + uptoBulkEntries r
def uptoBulkEntry {H : Type} : Lit × DataW H → Nat
  | (.string bytes, d) => bytes.length + uptoBulk d + 1
  | (_, d) => uptoBulk d + 1
 end
def uptoSmall : (H : Type) → List (DataW H) → Bool := fun _ ds => decide (uptoBulkAll ds ≤ 1048576)
def OpenSpec.upto (s : _root_.Go.ChangeSpec) : _root_.Go.OpenSpec := { _root_.Go.OpenSpec.ofChange s with cond := some uptoSmall }

/-- 'clockworklaw02.WireEncodes', WHERE WHAT IT READS IS OF BULK AT MOST 1048576: true; the input reads as it did. -/
def wireEncodesUptoRow : OpenClaim := { program := "ytgpcfdgdfejmmaa", sum := "085d41b2c47ff866ec2cc5c3dde555abc35312ff9a46bf5c54aca0186aa0a6f2", func := "clockwork/clockworklaw02.WireEncodes", spec := "wireEncodes", apart := false, narrowed := true }
def WireEncodesUptoSaid : Prop := wireEncodesUptoRow.holds Try.pinned (OpenSpec.upto wireEncodesSpec)

/-- 'clockworklaw02.WireTakesText', WHERE WHAT IT READS IS OF BULK AT MOST 1048576: true; the input reads as it did. -/
def wireTakesTextUptoRow : OpenClaim := { program := "ytgpcfdgdfejmmaa", sum := "085d41b2c47ff866ec2cc5c3dde555abc35312ff9a46bf5c54aca0186aa0a6f2", func := "clockwork/clockworklaw02.WireTakesText", spec := "wireTakesText", apart := false, narrowed := true }
def WireTakesTextUptoSaid : Prop := wireTakesTextUptoRow.holds Try.pinned (OpenSpec.upto wireTakesTextSpec)

/-- 'clockworklaw02.WirePrefixes', WHERE WHAT IT READS IS OF BULK AT MOST 1048576: true; the input reads as it did. -/
def wirePrefixesUptoRow : OpenClaim := { program := "ytgpcfdgdfejmmaa", sum := "085d41b2c47ff866ec2cc5c3dde555abc35312ff9a46bf5c54aca0186aa0a6f2", func := "clockwork/clockworklaw02.WirePrefixes", spec := "wirePrefixes", apart := false, narrowed := true }
def WirePrefixesUptoSaid : Prop := wirePrefixesUptoRow.holds Try.pinned (OpenSpec.upto wirePrefixesSpec)

/-- 'clockworklaw02.WireShifts', WHERE WHAT IT READS IS OF BULK AT MOST 1048576: true; the input reads as it did. -/
def wireShiftsUptoRow : OpenClaim := { program := "ytgpcfdgdfejmmaa", sum := "085d41b2c47ff866ec2cc5c3dde555abc35312ff9a46bf5c54aca0186aa0a6f2", func := "clockwork/clockworklaw02.WireShifts", spec := "wireShifts", apart := false, narrowed := true }
def WireShiftsUptoSaid : Prop := wireShiftsUptoRow.holds Try.pinned (OpenSpec.upto wireShiftsSpec)

/-- 'clockworklaw02.WireSizes', WHERE WHAT IT READS IS OF BULK AT MOST 1048576: true; the input reads as it did. -/
def wireSizesUptoRow : OpenClaim := { program := "ytgpcfdgdfejmmaa", sum := "085d41b2c47ff866ec2cc5c3dde555abc35312ff9a46bf5c54aca0186aa0a6f2", func := "clockwork/clockworklaw02.WireSizes", spec := "wireSizes", apart := false, narrowed := true }
def WireSizesUptoSaid : Prop := wireSizesUptoRow.holds Try.pinned (OpenSpec.upto wireSizesSpec)

/-- 'clockworklaw02.WireLimits', WHERE WHAT IT READS IS OF BULK AT MOST 1048576: true; the input reads as it did. -/
def wireLimitsUptoRow : OpenClaim := { program := "ytgpcfdgdfejmmaa", sum := "085d41b2c47ff866ec2cc5c3dde555abc35312ff9a46bf5c54aca0186aa0a6f2", func := "clockwork/clockworklaw02.WireLimits", spec := "wireLimits", apart := false, narrowed := true }
def WireLimitsUptoSaid : Prop := wireLimitsUptoRow.holds Try.pinned (OpenSpec.upto wireLimitsSpec)

/-- 'clockworklaw02.WireTakes', WHERE WHAT IT READS IS OF BULK AT MOST 1048576: true; the input reads as it did. -/
def wireTakesUptoRow : OpenClaim := { program := "ytgpcfdgdfejmmaa", sum := "085d41b2c47ff866ec2cc5c3dde555abc35312ff9a46bf5c54aca0186aa0a6f2", func := "clockwork/clockworklaw02.WireTakes", spec := "wireTakes", apart := false, narrowed := true }
def WireTakesUptoSaid : Prop := wireTakesUptoRow.holds Try.pinned (OpenSpec.upto wireTakesSpec)

/-- 'clockworklaw02.WireRoundTrips', WHERE WHAT IT READS IS OF BULK AT MOST 1048576: true; the input reads as it did. -/
def wireRoundTripsUptoRow : OpenClaim := { program := "ytgpcfdgdfejmmaa", sum := "085d41b2c47ff866ec2cc5c3dde555abc35312ff9a46bf5c54aca0186aa0a6f2", func := "clockwork/clockworklaw02.WireRoundTrips", spec := "wireRoundTrips", apart := false, narrowed := true }
def WireRoundTripsUptoSaid : Prop := wireRoundTripsUptoRow.holds Try.pinned (OpenSpec.upto wireRoundTripsSpec)

end Rows
end Go.Proofs.Ytgpcfdgdfejmmaa
