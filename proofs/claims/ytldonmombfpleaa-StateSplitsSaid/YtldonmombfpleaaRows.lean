/-
  No cell of these rows narrows 'for every input' (looked for: loops, veiled, ifaces, maps, wideKeys, modest, calm, conditions, laid).
  DERIVED. THE GIVEN ROWS OF THIS SEAT. 7 by the template 'for every input the law returns true; each argument reads behind the call as it read before'; 0 by the template 'total and deterministic' (their statements: YtldonmombfpleaaTotals.lean).
  GIVEN WITH THE SEED: the statements are not yours to turn. If you find one false, say at which input.
  Laid BY PROGRAM, IN A SANDBOX (cutbox-rows.mjs): the forced cells as the released guide's own fill.sh prints them over the translation 9b239fb07ed72d07… (all of the seat's roots in one cut). By AI agents, Wed Nov 11 2026. No macro, syntax, notation, axiom, sorry.
-/
import Derived.Test.YtldonmombfpleaaChecked
import GoSem.Claim
import GoSem.ClaimJoined
import GoSem.ClaimMapViews
import Derived.JoinedTies
import Derived.KernelRfl
namespace Go.Proofs.Ytldonmombfpleaa
/- THE CELL 'sum', in the pinned program and in every row, IS THE sha256 OF THE DUMP (.gsa) THAT YtldonmombfpleaaProg.lean LOADS. Nothing in Lean hashes anything: it is a label: what it is worth is what the hold of that sum in a sandbox is worth. -/
noncomputable def Try.pinned : Pinned := { name := "ytldonmombfpleaa", sum := "9b239fb07ed72d07425e5f8457bed5d2e7e30cd9803cc3bd5eb806d7ca89a258", checked := Try.checked }
namespace Rows
def none {H : Type} : Left H := { results := [], args := [] }

/-- 'clockworklaw06.StateGets': WHATEVER THE INPUT: true; the input reads as it did. -/
def stateGetsSpec : ChangeSpec := { name := "stateGets", fn := fun _ => fun
  | [d1, d2, d3] => { results := [.lit (.bool true)], args := [d1, d2, d3] }
  | _ => none }
def stateGetsRow : OpenClaim := { program := "ytldonmombfpleaa", sum := "9b239fb07ed72d07425e5f8457bed5d2e7e30cd9803cc3bd5eb806d7ca89a258", func := "clockwork/clockworklaw06.StateGets", spec := "stateGets", inPlace := ["internal/bytealg.abigen_runtime_cmpstring", "internal/abi.NoEscape"], unfollowed := true, recurses := true, apart := false }
def StateGetsSaid : Prop := stateGetsRow.holds Try.pinned (OpenSpec.ofChange stateGetsSpec)

/-- ITS FALSE NEIGHBOUR: 'it returns false'. Refute it at one input. -/
def stateGetsWrong : ChangeSpec := { name := "stateGets", fn := fun _ => fun
  | [d1, d2, d3] => { results := [.lit (.bool false)], args := [d1, d2, d3] }
  | _ => none }
def StateGetsWrongFalsely : Prop := stateGetsRow.holds Try.pinned (OpenSpec.ofChange stateGetsWrong)

/-- 'clockworklaw06.StateApplies': WHATEVER THE INPUT: true; the input reads as it did. -/
def stateAppliesSpec : ChangeSpec := { name := "stateApplies", fn := fun _ => fun
  | [d1, d2] => { results := [.lit (.bool true)], args := [d1, d2] }
  | _ => none }
def stateAppliesRow : OpenClaim := { program := "ytldonmombfpleaa", sum := "9b239fb07ed72d07425e5f8457bed5d2e7e30cd9803cc3bd5eb806d7ca89a258", func := "clockwork/clockworklaw06.StateApplies", spec := "stateApplies", inPlace := ["internal/bytealg.abigen_runtime_cmpstring", "internal/abi.NoEscape"], unfollowed := true, recurses := true, apart := false }
def StateAppliesSaid : Prop := stateAppliesRow.holds Try.pinned (OpenSpec.ofChange stateAppliesSpec)

/-- ITS FALSE NEIGHBOUR: 'it returns false'. Refute it at one input. -/
def stateAppliesWrong : ChangeSpec := { name := "stateApplies", fn := fun _ => fun
  | [d1, d2] => { results := [.lit (.bool false)], args := [d1, d2] }
  | _ => none }
def StateAppliesWrongFalsely : Prop := stateAppliesRow.holds Try.pinned (OpenSpec.ofChange stateAppliesWrong)

/-- 'clockworklaw06.StateDiffApplies': WHATEVER THE INPUT: true; the input reads as it did. -/
def stateDiffAppliesSpec : ChangeSpec := { name := "stateDiffApplies", fn := fun _ => fun
  | [d1, d2] => { results := [.lit (.bool true)], args := [d1, d2] }
  | _ => none }
def stateDiffAppliesRow : OpenClaim := { program := "ytldonmombfpleaa", sum := "9b239fb07ed72d07425e5f8457bed5d2e7e30cd9803cc3bd5eb806d7ca89a258", func := "clockwork/clockworklaw06.StateDiffApplies", spec := "stateDiffApplies", inPlace := ["internal/bytealg.abigen_runtime_cmpstring", "internal/abi.NoEscape"], unfollowed := true, recurses := true, apart := false }
def StateDiffAppliesSaid : Prop := stateDiffAppliesRow.holds Try.pinned (OpenSpec.ofChange stateDiffAppliesSpec)

/-- ITS FALSE NEIGHBOUR: 'it returns false'. Refute it at one input. -/
def stateDiffAppliesWrong : ChangeSpec := { name := "stateDiffApplies", fn := fun _ => fun
  | [d1, d2] => { results := [.lit (.bool false)], args := [d1, d2] }
  | _ => none }
def StateDiffAppliesWrongFalsely : Prop := stateDiffAppliesRow.holds Try.pinned (OpenSpec.ofChange stateDiffAppliesWrong)

/-- 'clockworklaw06.StateSplits': WHATEVER THE INPUT: true; the input reads as it did. -/
def stateSplitsSpec : ChangeSpec := { name := "stateSplits", fn := fun _ => fun
  | [d1, d2] => { results := [.lit (.bool true)], args := [d1, d2] }
  | _ => none }
def stateSplitsRow : OpenClaim := { program := "ytldonmombfpleaa", sum := "9b239fb07ed72d07425e5f8457bed5d2e7e30cd9803cc3bd5eb806d7ca89a258", func := "clockwork/clockworklaw06.StateSplits", spec := "stateSplits", inPlace := ["internal/bytealg.abigen_runtime_cmpstring", "internal/abi.NoEscape"], unfollowed := true, recurses := true, apart := false }
def StateSplitsSaid : Prop := stateSplitsRow.holds Try.pinned (OpenSpec.ofChange stateSplitsSpec)

/-- ITS FALSE NEIGHBOUR: 'it returns false'. Refute it at one input. -/
def stateSplitsWrong : ChangeSpec := { name := "stateSplits", fn := fun _ => fun
  | [d1, d2] => { results := [.lit (.bool false)], args := [d1, d2] }
  | _ => none }
def StateSplitsWrongFalsely : Prop := stateSplitsRow.holds Try.pinned (OpenSpec.ofChange stateSplitsWrong)

/-- 'clockworklaw06.StateLists': WHATEVER THE INPUT: true; the input reads as it did. -/
def stateListsSpec : ChangeSpec := { name := "stateLists", fn := fun _ => fun
  | [d1, d2, d3] => { results := [.lit (.bool true)], args := [d1, d2, d3] }
  | _ => none }
def stateListsRow : OpenClaim := { program := "ytldonmombfpleaa", sum := "9b239fb07ed72d07425e5f8457bed5d2e7e30cd9803cc3bd5eb806d7ca89a258", func := "clockwork/clockworklaw06.StateLists", spec := "stateLists", inPlace := ["internal/bytealg.abigen_runtime_cmpstring", "internal/abi.NoEscape"], unfollowed := true, recurses := true, apart := false }
def StateListsSaid : Prop := stateListsRow.holds Try.pinned (OpenSpec.ofChange stateListsSpec)

/-- ITS FALSE NEIGHBOUR: 'it returns false'. Refute it at one input. -/
def stateListsWrong : ChangeSpec := { name := "stateLists", fn := fun _ => fun
  | [d1, d2, d3] => { results := [.lit (.bool false)], args := [d1, d2, d3] }
  | _ => none }
def StateListsWrongFalsely : Prop := stateListsRow.holds Try.pinned (OpenSpec.ofChange stateListsWrong)

/-- 'clockworklaw06.StateCodes': WHATEVER THE INPUT: true; the input reads as it did. -/
def stateCodesSpec : ChangeSpec := { name := "stateCodes", fn := fun _ => fun
  | [d1, d2, d3] => { results := [.lit (.bool true)], args := [d1, d2, d3] }
  | _ => none }
def stateCodesRow : OpenClaim := { program := "ytldonmombfpleaa", sum := "9b239fb07ed72d07425e5f8457bed5d2e7e30cd9803cc3bd5eb806d7ca89a258", func := "clockwork/clockworklaw06.StateCodes", spec := "stateCodes", inPlace := ["internal/abi.NoEscape", "internal/bytealg.abigen_runtime_cmpstring"], unfollowed := true, recurses := true, apart := false }
def StateCodesSaid : Prop := stateCodesRow.holds Try.pinned (OpenSpec.ofChange stateCodesSpec)

/-- ITS FALSE NEIGHBOUR: 'it returns false'. Refute it at one input. -/
def stateCodesWrong : ChangeSpec := { name := "stateCodes", fn := fun _ => fun
  | [d1, d2, d3] => { results := [.lit (.bool false)], args := [d1, d2, d3] }
  | _ => none }
def StateCodesWrongFalsely : Prop := stateCodesRow.holds Try.pinned (OpenSpec.ofChange stateCodesWrong)

/-- 'clockworklaw06.StateRoundTrips': WHATEVER THE INPUT: true; the input reads as it did. -/
def stateRoundTripsSpec : ChangeSpec := { name := "stateRoundTrips", fn := fun _ => fun
  | [d1, d2, d3] => { results := [.lit (.bool true)], args := [d1, d2, d3] }
  | _ => none }
def stateRoundTripsRow : OpenClaim := { program := "ytldonmombfpleaa", sum := "9b239fb07ed72d07425e5f8457bed5d2e7e30cd9803cc3bd5eb806d7ca89a258", func := "clockwork/clockworklaw06.StateRoundTrips", spec := "stateRoundTrips", inPlace := ["internal/abi.NoEscape", "internal/bytealg.abigen_runtime_cmpstring"], unfollowed := true, recurses := true, apart := false }
def StateRoundTripsSaid : Prop := stateRoundTripsRow.holds Try.pinned (OpenSpec.ofChange stateRoundTripsSpec)

/-- ITS FALSE NEIGHBOUR: 'it returns false'. Refute it at one input. -/
def stateRoundTripsWrong : ChangeSpec := { name := "stateRoundTrips", fn := fun _ => fun
  | [d1, d2, d3] => { results := [.lit (.bool false)], args := [d1, d2, d3] }
  | _ => none }
def StateRoundTripsWrongFalsely : Prop := stateRoundTripsRow.holds Try.pinned (OpenSpec.ofChange stateRoundTripsWrong)

/- THE SECOND FORM. 'bulk': how many values and letters a reading holds, each counted each time it is reached (what is shared counts as often as it is met; a slice's spare places count too). A statement '..UptoSaid' is the law's where the arguments, and the package variables that the reading takes, are together of bulk at most 1048576: NARROWER than '..Said'. Prove '..Said' where nothing that the law and all that it calls make is longer than what came in: it says more and counts as full. Else prove '..UptoSaid'. A law counts once. -/
mutual
def uptoBulk {H : Type} : DataW H → Nat
  | .lit (.string bytes) => bytes.length + 1
  | .lit _ => 1
  | .nil => 1
  | .ptr d => uptoBulk d + 1
  | .slice elems spare => uptoBulkAll elems + uptoBulkAll spare + 1
  | .agg parts => uptoBulkAll parts + 1
  | .iface _ d => uptoBulk d + 1
  | .map entries => uptoBulkEntries entries + 1
  | .held _ => 1
def uptoBulkAll {H : Type} : List (DataW H) → Nat
  | [] => 0
  | d :: r => uptoBulk d + uptoBulkAll r
def uptoBulkEntries {H : Type} : List (Lit × DataW H) → Nat
  | [] => 0
  | x :: r => uptoBulkEntry x + uptoBulkEntries r
def uptoBulkEntry {H : Type} : Lit × DataW H → Nat
  | (.string bytes, d) => bytes.length + uptoBulk d + 1
  | (_, d) => uptoBulk d + 1
 end
def uptoSmall : (H : Type) → List (DataW H) → Bool := fun _ ds => decide (uptoBulkAll ds ≤ 1048576)
def OpenSpec.upto (s : _root_.Go.ChangeSpec) : _root_.Go.OpenSpec := { _root_.Go.OpenSpec.ofChange s with cond := some uptoSmall }

/-- 'clockworklaw06.StateGets', WHERE WHAT IT READS IS OF BULK AT MOST 1048576: true; the input reads as it did. -/
def stateGetsUptoRow : OpenClaim := { program := "ytldonmombfpleaa", sum := "9b239fb07ed72d07425e5f8457bed5d2e7e30cd9803cc3bd5eb806d7ca89a258", func := "clockwork/clockworklaw06.StateGets", spec := "stateGets", inPlace := ["internal/bytealg.abigen_runtime_cmpstring", "internal/abi.NoEscape"], unfollowed := true, recurses := true, apart := false, narrowed := true }
def StateGetsUptoSaid : Prop := stateGetsUptoRow.holds Try.pinned (OpenSpec.upto stateGetsSpec)

/-- 'clockworklaw06.StateApplies', WHERE WHAT IT READS IS OF BULK AT MOST 1048576: true; the input reads as it did. -/
def stateAppliesUptoRow : OpenClaim := { program := "ytldonmombfpleaa", sum := "9b239fb07ed72d07425e5f8457bed5d2e7e30cd9803cc3bd5eb806d7ca89a258", func := "clockwork/clockworklaw06.StateApplies", spec := "stateApplies", inPlace := ["internal/bytealg.abigen_runtime_cmpstring", "internal/abi.NoEscape"], unfollowed := true, recurses := true, apart := false, narrowed := true }
def StateAppliesUptoSaid : Prop := stateAppliesUptoRow.holds Try.pinned (OpenSpec.upto stateAppliesSpec)

/-- 'clockworklaw06.StateDiffApplies', WHERE WHAT IT READS IS OF BULK AT MOST 1048576: true; the input reads as it did. -/
def stateDiffAppliesUptoRow : OpenClaim := { program := "ytldonmombfpleaa", sum := "9b239fb07ed72d07425e5f8457bed5d2e7e30cd9803cc3bd5eb806d7ca89a258", func := "clockwork/clockworklaw06.StateDiffApplies", spec := "stateDiffApplies", inPlace := ["internal/bytealg.abigen_runtime_cmpstring", "internal/abi.NoEscape"], unfollowed := true, recurses := true, apart := false, narrowed := true }
def StateDiffAppliesUptoSaid : Prop := stateDiffAppliesUptoRow.holds Try.pinned (OpenSpec.upto stateDiffAppliesSpec)

/-- 'clockworklaw06.StateSplits', WHERE WHAT IT READS IS OF BULK AT MOST 1048576: true; the input reads as it did. -/
def stateSplitsUptoRow : OpenClaim := { program := "ytldonmombfpleaa", sum := "9b239fb07ed72d07425e5f8457bed5d2e7e30cd9803cc3bd5eb806d7ca89a258", func := "clockwork/clockworklaw06.StateSplits", spec := "stateSplits", inPlace := ["internal/bytealg.abigen_runtime_cmpstring", "internal/abi.NoEscape"], unfollowed := true, recurses := true, apart := false, narrowed := true }
def StateSplitsUptoSaid : Prop := stateSplitsUptoRow.holds Try.pinned (OpenSpec.upto stateSplitsSpec)

/-- 'clockworklaw06.StateLists', WHERE WHAT IT READS IS OF BULK AT MOST 1048576: true; the input reads as it did. -/
def stateListsUptoRow : OpenClaim := { program := "ytldonmombfpleaa", sum := "9b239fb07ed72d07425e5f8457bed5d2e7e30cd9803cc3bd5eb806d7ca89a258", func := "clockwork/clockworklaw06.StateLists", spec := "stateLists", inPlace := ["internal/bytealg.abigen_runtime_cmpstring", "internal/abi.NoEscape"], unfollowed := true, recurses := true, apart := false, narrowed := true }
def StateListsUptoSaid : Prop := stateListsUptoRow.holds Try.pinned (OpenSpec.upto stateListsSpec)

/-- 'clockworklaw06.StateCodes', WHERE WHAT IT READS IS OF BULK AT MOST 1048576: true; the input reads as it did. -/
def stateCodesUptoRow : OpenClaim := { program := "ytldonmombfpleaa", sum := "9b239fb07ed72d07425e5f8457bed5d2e7e30cd9803cc3bd5eb806d7ca89a258", func := "clockwork/clockworklaw06.StateCodes", spec := "stateCodes", inPlace := ["internal/abi.NoEscape", "internal/bytealg.abigen_runtime_cmpstring"], unfollowed := true, recurses := true, apart := false, narrowed := true }
def StateCodesUptoSaid : Prop := stateCodesUptoRow.holds Try.pinned (OpenSpec.upto stateCodesSpec)

/-- 'clockworklaw06.StateRoundTrips', WHERE WHAT IT READS IS OF BULK AT MOST 1048576: true; the input reads as it did. -/
def stateRoundTripsUptoRow : OpenClaim := { program := "ytldonmombfpleaa", sum := "9b239fb07ed72d07425e5f8457bed5d2e7e30cd9803cc3bd5eb806d7ca89a258", func := "clockwork/clockworklaw06.StateRoundTrips", spec := "stateRoundTrips", inPlace := ["internal/abi.NoEscape", "internal/bytealg.abigen_runtime_cmpstring"], unfollowed := true, recurses := true, apart := false, narrowed := true }
def StateRoundTripsUptoSaid : Prop := stateRoundTripsUptoRow.holds Try.pinned (OpenSpec.upto stateRoundTripsSpec)

end Rows
end Go.Proofs.Ytldonmombfpleaa
