/-
  No cell of these rows narrows 'for every input' (looked for: loops, veiled, ifaces, maps, wideKeys, modest, calm, conditions, laid).
  DERIVED. THE GIVEN ROWS OF THIS SEAT. 7 by the template 'for every input the law returns true; each argument reads behind the call as it read before'; 0 by the template 'total and deterministic' (their statements: YtalebiebdmidoaaTotals.lean).
  GIVEN WITH THE SEED: the statements are not yours to turn. If you find one false, say at which input.
  Laid BY PROGRAM, IN A SANDBOX (cutbox-rows.mjs): the forced cells as the released guide's own fill.sh prints them over the translation ae5335ecf116c1b1… (all of the seat's roots in one cut). By AI agents, Wed Nov 11 2026. No macro, syntax, notation, axiom, sorry.
-/
import Derived.Test.YtalebiebdmidoaaChecked
import GoSem.Claim
import GoSem.ClaimJoined
import GoSem.ClaimMapViews
import Derived.JoinedTies
import Derived.KernelRfl
namespace Go.Proofs.Ytalebiebdmidoaa
/- THE CELL 'sum', in the pinned program and in every row, IS THE sha256 OF THE DUMP (.gsa) THAT YtalebiebdmidoaaProg.lean LOADS. Nothing in Lean hashes anything: it is a label: what it is worth is what the hold of that sum in a sandbox is worth. -/
noncomputable def Try.pinned : Pinned := { name := "ytalebiebdmidoaa", sum := "ae5335ecf116c1b1331d2ad4104484c6ec1212ed0e5b11ea59583693d72bc31b", checked := Try.checked }
namespace Rows
def none {H : Type} : Left H := { results := [], args := [] }

/-- 'clockworklaw36.BatchValidates': WHATEVER THE INPUT: true; the input reads as it did. -/
def batchValidatesSpec : ChangeSpec := { name := "batchValidates", fn := fun _ => fun
  | [d1, d2] => { results := [.lit (.bool true)], args := [d1, d2] }
  | _ => none }
def batchValidatesRow : OpenClaim := { program := "ytalebiebdmidoaa", sum := "ae5335ecf116c1b1331d2ad4104484c6ec1212ed0e5b11ea59583693d72bc31b", func := "clockwork/clockworklaw36.BatchValidates", spec := "batchValidates", unfollowed := true, recurses := true, apart := false }
def BatchValidatesSaid : Prop := batchValidatesRow.holds Try.pinned (OpenSpec.ofChange batchValidatesSpec)

/-- ITS FALSE NEIGHBOUR: 'it returns false'. Refute it at one input. -/
def batchValidatesWrong : ChangeSpec := { name := "batchValidates", fn := fun _ => fun
  | [d1, d2] => { results := [.lit (.bool false)], args := [d1, d2] }
  | _ => none }
def BatchValidatesWrongFalsely : Prop := batchValidatesRow.holds Try.pinned (OpenSpec.ofChange batchValidatesWrong)

/-- 'clockworklaw36.BatchCodesRequests': WHATEVER THE INPUT: true; the input reads as it did. -/
def batchCodesRequestsSpec : ChangeSpec := { name := "batchCodesRequests", fn := fun _ => fun
  | [d1, d2, d3] => { results := [.lit (.bool true)], args := [d1, d2, d3] }
  | _ => none }
def batchCodesRequestsRow : OpenClaim := { program := "ytalebiebdmidoaa", sum := "ae5335ecf116c1b1331d2ad4104484c6ec1212ed0e5b11ea59583693d72bc31b", func := "clockwork/clockworklaw36.BatchCodesRequests", spec := "batchCodesRequests", unfollowed := true, recurses := true, apart := false }
def BatchCodesRequestsSaid : Prop := batchCodesRequestsRow.holds Try.pinned (OpenSpec.ofChange batchCodesRequestsSpec)

/-- ITS FALSE NEIGHBOUR: 'it returns false'. Refute it at one input. -/
def batchCodesRequestsWrong : ChangeSpec := { name := "batchCodesRequests", fn := fun _ => fun
  | [d1, d2, d3] => { results := [.lit (.bool false)], args := [d1, d2, d3] }
  | _ => none }
def BatchCodesRequestsWrongFalsely : Prop := batchCodesRequestsRow.holds Try.pinned (OpenSpec.ofChange batchCodesRequestsWrong)

/-- 'clockworklaw36.BatchFair': WHATEVER THE INPUT: true; the input reads as it did. -/
def batchFairSpec : ChangeSpec := { name := "batchFair", fn := fun _ => fun
  | [d] => { results := [.lit (.bool true)], args := [d] }
  | _ => none }
def batchFairRow : OpenClaim := { program := "ytalebiebdmidoaa", sum := "ae5335ecf116c1b1331d2ad4104484c6ec1212ed0e5b11ea59583693d72bc31b", func := "clockwork/clockworklaw36.BatchFair", spec := "batchFair", unfollowed := true, recurses := true, apart := false }
def BatchFairSaid : Prop := batchFairRow.holds Try.pinned (OpenSpec.ofChange batchFairSpec)

/-- ITS FALSE NEIGHBOUR: 'it returns false'. Refute it at one input. -/
def batchFairWrong : ChangeSpec := { name := "batchFair", fn := fun _ => fun
  | [d] => { results := [.lit (.bool false)], args := [d] }
  | _ => none }
def BatchFairWrongFalsely : Prop := batchFairRow.holds Try.pinned (OpenSpec.ofChange batchFairWrong)

/-- 'clockworklaw36.BatchCodes': WHATEVER THE INPUT: true; the input reads as it did. -/
def batchCodesSpec : ChangeSpec := { name := "batchCodes", fn := fun _ => fun
  | [d1, d2, d3] => { results := [.lit (.bool true)], args := [d1, d2, d3] }
  | _ => none }
def batchCodesRow : OpenClaim := { program := "ytalebiebdmidoaa", sum := "ae5335ecf116c1b1331d2ad4104484c6ec1212ed0e5b11ea59583693d72bc31b", func := "clockwork/clockworklaw36.BatchCodes", spec := "batchCodes", unfollowed := true, recurses := true, apart := false }
def BatchCodesSaid : Prop := batchCodesRow.holds Try.pinned (OpenSpec.ofChange batchCodesSpec)

/-- ITS FALSE NEIGHBOUR: 'it returns false'. Refute it at one input. -/
def batchCodesWrong : ChangeSpec := { name := "batchCodes", fn := fun _ => fun
  | [d1, d2, d3] => { results := [.lit (.bool false)], args := [d1, d2, d3] }
  | _ => none }
def BatchCodesWrongFalsely : Prop := batchCodesRow.holds Try.pinned (OpenSpec.ofChange batchCodesWrong)

/-- 'clockworklaw36.BatchRoundTrips': WHATEVER THE INPUT: true; the input reads as it did. -/
def batchRoundTripsSpec : ChangeSpec := { name := "batchRoundTrips", fn := fun _ => fun
  | [d1, d2] => { results := [.lit (.bool true)], args := [d1, d2] }
  | _ => none }
def batchRoundTripsRow : OpenClaim := { program := "ytalebiebdmidoaa", sum := "ae5335ecf116c1b1331d2ad4104484c6ec1212ed0e5b11ea59583693d72bc31b", func := "clockwork/clockworklaw36.BatchRoundTrips", spec := "batchRoundTrips", unfollowed := true, recurses := true, apart := false }
def BatchRoundTripsSaid : Prop := batchRoundTripsRow.holds Try.pinned (OpenSpec.ofChange batchRoundTripsSpec)

/-- ITS FALSE NEIGHBOUR: 'it returns false'. Refute it at one input. -/
def batchRoundTripsWrong : ChangeSpec := { name := "batchRoundTrips", fn := fun _ => fun
  | [d1, d2] => { results := [.lit (.bool false)], args := [d1, d2] }
  | _ => none }
def BatchRoundTripsWrongFalsely : Prop := batchRoundTripsRow.holds Try.pinned (OpenSpec.ofChange batchRoundTripsWrong)

/-- 'clockworklaw36.BatchMerges': WHATEVER THE INPUT: true; the input reads as it did. -/
def batchMergesSpec : ChangeSpec := { name := "batchMerges", fn := fun _ => fun
  | [d1, d2] => { results := [.lit (.bool true)], args := [d1, d2] }
  | _ => none }
def batchMergesRow : OpenClaim := { program := "ytalebiebdmidoaa", sum := "ae5335ecf116c1b1331d2ad4104484c6ec1212ed0e5b11ea59583693d72bc31b", func := "clockwork/clockworklaw36.BatchMerges", spec := "batchMerges", unfollowed := true, recurses := true, apart := false }
def BatchMergesSaid : Prop := batchMergesRow.holds Try.pinned (OpenSpec.ofChange batchMergesSpec)

/-- ITS FALSE NEIGHBOUR: 'it returns false'. Refute it at one input. -/
def batchMergesWrong : ChangeSpec := { name := "batchMerges", fn := fun _ => fun
  | [d1, d2] => { results := [.lit (.bool false)], args := [d1, d2] }
  | _ => none }
def BatchMergesWrongFalsely : Prop := batchMergesRow.holds Try.pinned (OpenSpec.ofChange batchMergesWrong)

/-- 'clockworklaw36.BatchCuts': WHATEVER THE INPUT: true; the input reads as it did. -/
def batchCutsSpec : ChangeSpec := { name := "batchCuts", fn := fun _ => fun
  | [d1, d2] => { results := [.lit (.bool true)], args := [d1, d2] }
  | _ => none }
def batchCutsRow : OpenClaim := { program := "ytalebiebdmidoaa", sum := "ae5335ecf116c1b1331d2ad4104484c6ec1212ed0e5b11ea59583693d72bc31b", func := "clockwork/clockworklaw36.BatchCuts", spec := "batchCuts", unfollowed := true, recurses := true, apart := false }
def BatchCutsSaid : Prop := batchCutsRow.holds Try.pinned (OpenSpec.ofChange batchCutsSpec)

/-- ITS FALSE NEIGHBOUR: 'it returns false'. Refute it at one input. -/
def batchCutsWrong : ChangeSpec := { name := "batchCuts", fn := fun _ => fun
  | [d1, d2] => { results := [.lit (.bool false)], args := [d1, d2] }
  | _ => none }
def BatchCutsWrongFalsely : Prop := batchCutsRow.holds Try.pinned (OpenSpec.ofChange batchCutsWrong)

/- THE SECOND FORM. 'bulk': how many values and letters a reading holds, each counted each time it is reached (what is shared counts as often as it is met; a slice's spare places count too). A statement '..UptoSaid' is the law's where the arguments, and the package variables that the reading takes, are together of bulk at most 1048576: NARROWER than '..Said'. Prove '..Said' where nothing that the law and all that it calls make is longer than what came in: it says more and counts as full. Else prove '..UptoSaid'. A law counts once. -/
mutual
def uptoBulk {H : Type} : DataW H → Nat
  | .lit (.string bytes) => bytes.length + 1
  | .lit _ => 1
  | .nil => 1
  | .ptr d => uptoBulk d + 1
  | .slice elems spare => uptoBulkAll elems + uptoBulkAll spare + 1
  | .agg parts => uptoBulkAll parts + 1
  | .iface _ d => uptoBulk d + 1
  | .map entries => uptoBulkEntries entries + 1
  | .held _ => 1
def uptoBulkAll {H : Type} : List (DataW H) → Nat
  | [] => 0
  | d :: r => uptoBulk d + uptoBulkAll r
def uptoBulkEntries {H : Type} : List (Lit × DataW H) → Nat
  | [] => 0
  | x :: r => uptoBulkEntry x + uptoBulkEntries r
def uptoBulkEntry {H : Type} : Lit × DataW H → Nat
  | (.string bytes, d) => bytes.length + uptoBulk d + 1
  | (_, d) => uptoBulk d + 1
 end
def uptoSmall : (H : Type) → List (DataW H) → Bool := fun _ ds => decide (uptoBulkAll ds ≤ 1048576)
def OpenSpec.upto (s : _root_.Go.ChangeSpec) : _root_.Go.OpenSpec := { _root_.Go.OpenSpec.ofChange s with cond := some uptoSmall }

/-- 'clockworklaw36.BatchValidates', WHERE WHAT IT READS IS OF BULK AT MOST 1048576: true; the input reads as it did. -/
def batchValidatesUptoRow : OpenClaim := { program := "ytalebiebdmidoaa", sum := "ae5335ecf116c1b1331d2ad4104484c6ec1212ed0e5b11ea59583693d72bc31b", func := "clockwork/clockworklaw36.BatchValidates", spec := "batchValidates", unfollowed := true, recurses := true, apart := false, narrowed := true }
def BatchValidatesUptoSaid : Prop := batchValidatesUptoRow.holds Try.pinned (OpenSpec.upto batchValidatesSpec)

/-- 'clockworklaw36.BatchCodesRequests', WHERE WHAT IT READS IS OF BULK AT MOST 1048576: true; the input reads as it did. -/
def batchCodesRequestsUptoRow : OpenClaim := { program := "ytalebiebdmidoaa", sum := "ae5335ecf116c1b1331d2ad4104484c6ec1212ed0e5b11ea59583693d72bc31b", func := "clockwork/clockworklaw36.BatchCodesRequests", spec := "batchCodesRequests", unfollowed := true, recurses := true, apart := false, narrowed := true }
def BatchCodesRequestsUptoSaid : Prop := batchCodesRequestsUptoRow.holds Try.pinned (OpenSpec.upto batchCodesRequestsSpec)

/-- 'clockworklaw36.BatchFair', WHERE WHAT IT READS IS OF BULK AT MOST 1048576: true; the input reads as it did. -/
def batchFairUptoRow : OpenClaim := { program := "ytalebiebdmidoaa", sum := "ae5335ecf116c1b1331d2ad4104484c6ec1212ed0e5b11ea59583693d72bc31b", func := "clockwork/clockworklaw36.BatchFair", spec := "batchFair", unfollowed := true, recurses := true, apart := false, narrowed := true }
def BatchFairUptoSaid : Prop := batchFairUptoRow.holds Try.pinned (OpenSpec.upto batchFairSpec)

/-- 'clockworklaw36.BatchCodes', WHERE WHAT IT READS IS OF BULK AT MOST 1048576: true; the input reads as it did. -/
def batchCodesUptoRow : OpenClaim := { program := "ytalebiebdmidoaa", sum := "ae5335ecf116c1b1331d2ad4104484c6ec1212ed0e5b11ea59583693d72bc31b", func := "clockwork/clockworklaw36.BatchCodes", spec := "batchCodes", unfollowed := true, recurses := true, apart := false, narrowed := true }
def BatchCodesUptoSaid : Prop := batchCodesUptoRow.holds Try.pinned (OpenSpec.upto batchCodesSpec)

/-- 'clockworklaw36.BatchRoundTrips', WHERE WHAT IT READS IS OF BULK AT MOST 1048576: true; the input reads as it did. -/
def batchRoundTripsUptoRow : OpenClaim := { program := "ytalebiebdmidoaa", sum := "ae5335ecf116c1b1331d2ad4104484c6ec1212ed0e5b11ea59583693d72bc31b", func := "clockwork/clockworklaw36.BatchRoundTrips", spec := "batchRoundTrips", unfollowed := true, recurses := true, apart := false, narrowed := true }
def BatchRoundTripsUptoSaid : Prop := batchRoundTripsUptoRow.holds Try.pinned (OpenSpec.upto batchRoundTripsSpec)

/-- 'clockworklaw36.BatchMerges', WHERE WHAT IT READS IS OF BULK AT MOST 1048576: true; the input reads as it did. -/
def batchMergesUptoRow : OpenClaim := { program := "ytalebiebdmidoaa", sum := "ae5335ecf116c1b1331d2ad4104484c6ec1212ed0e5b11ea59583693d72bc31b", func := "clockwork/clockworklaw36.BatchMerges", spec := "batchMerges", unfollowed := true, recurses := true, apart := false, narrowed := true }
def BatchMergesUptoSaid : Prop := batchMergesUptoRow.holds Try.pinned (OpenSpec.upto batchMergesSpec)

/-- 'clockworklaw36.BatchCuts', WHERE WHAT IT READS IS OF BULK AT MOST 1048576: true; the input reads as it did. -/
def batchCutsUptoRow : OpenClaim := { program := "ytalebiebdmidoaa", sum := "ae5335ecf116c1b1331d2ad4104484c6ec1212ed0e5b11ea59583693d72bc31b", func := "clockwork/clockworklaw36.BatchCuts", spec := "batchCuts", unfollowed := true, recurses := true, apart := false, narrowed := true }
def BatchCutsUptoSaid : Prop := batchCutsUptoRow.holds Try.pinned (OpenSpec.upto batchCutsSpec)

end Rows
end Go.Proofs.Ytalebiebdmidoaa
