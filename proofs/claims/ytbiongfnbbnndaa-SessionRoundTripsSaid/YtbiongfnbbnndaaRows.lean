/-
  No cell of these rows narrows 'for every input' (looked for: loops, veiled, ifaces, maps, wideKeys, modest, calm, conditions, laid).
  DERIVED. THE GIVEN ROWS OF THIS SEAT. 6 by the template 'for every input the law returns true; each argument reads behind the call as it read before'; 0 by the template 'total and deterministic' (their statements: YtbiongfnbbnndaaTotals.lean).
  GIVEN WITH THE SEED: the statements are not yours to turn. If you find one false, say at which input.
  Laid BY PROGRAM, IN A SANDBOX (cutbox-rows.mjs): the forced cells as the released guide's own fill.sh prints them over the translation 70da85661bf25d1b… (all of the seat's roots in one cut). By AI agents, Wed Nov 11 2026. No macro, syntax, notation, axiom, sorry.
-/
import Derived.Test.YtbiongfnbbnndaaChecked
import GoSem.Claim
import GoSem.ClaimJoined
import GoSem.ClaimMapViews
import Derived.JoinedTies
import Derived.KernelRfl
namespace Go.Proofs.Ytbiongfnbbnndaa
/- THE CELL 'sum', in the pinned program and in every row, IS THE sha256 OF THE DUMP (.gsa) THAT YtbiongfnbbnndaaProg.lean LOADS. Nothing in Lean hashes anything: it is a label: what it is worth is what the hold of that sum in a sandbox is worth. -/
noncomputable def Try.pinned : Pinned := { name := "ytbiongfnbbnndaa", sum := "70da85661bf25d1b1f22b3efa27d724ce357f890c289b061e6c6f4dd718c9365", checked := Try.checked }
namespace Rows
def none {H : Type} : Left H := { results := [], args := [] }

/-- 'clockworklaw37.SessionOnce': WHATEVER THE INPUT: true; the input reads as it did. -/
def sessionOnceSpec : ChangeSpec := { name := "sessionOnce", fn := fun _ => fun
  | [d1, d2, d3] => { results := [.lit (.bool true)], args := [d1, d2, d3] }
  | _ => none }
def sessionOnceRow : OpenClaim := { program := "ytbiongfnbbnndaa", sum := "70da85661bf25d1b1f22b3efa27d724ce357f890c289b061e6c6f4dd718c9365", func := "clockwork/clockworklaw37.SessionOnce", spec := "sessionOnce", inPlace := ["slices.overlaps[clockwork/api.Session]"], unfollowed := true, recurses := true, apart := false }
def SessionOnceSaid : Prop := sessionOnceRow.holds Try.pinned (OpenSpec.ofChange sessionOnceSpec)

/-- ITS FALSE NEIGHBOUR: 'it returns false'. Refute it at one input. -/
def sessionOnceWrong : ChangeSpec := { name := "sessionOnce", fn := fun _ => fun
  | [d1, d2, d3] => { results := [.lit (.bool false)], args := [d1, d2, d3] }
  | _ => none }
def SessionOnceWrongFalsely : Prop := sessionOnceRow.holds Try.pinned (OpenSpec.ofChange sessionOnceWrong)

/-- 'clockworklaw37.SessionFilters': WHATEVER THE INPUT: true; the input reads as it did. -/
def sessionFiltersSpec : ChangeSpec := { name := "sessionFilters", fn := fun _ => fun
  | [d1, d2, d3] => { results := [.lit (.bool true)], args := [d1, d2, d3] }
  | _ => none }
def sessionFiltersRow : OpenClaim := { program := "ytbiongfnbbnndaa", sum := "70da85661bf25d1b1f22b3efa27d724ce357f890c289b061e6c6f4dd718c9365", func := "clockwork/clockworklaw37.SessionFilters", spec := "sessionFilters", inPlace := ["slices.overlaps[clockwork/api.Session]"], unfollowed := true, recurses := true, apart := false }
def SessionFiltersSaid : Prop := sessionFiltersRow.holds Try.pinned (OpenSpec.ofChange sessionFiltersSpec)

/-- ITS FALSE NEIGHBOUR: 'it returns false'. Refute it at one input. -/
def sessionFiltersWrong : ChangeSpec := { name := "sessionFilters", fn := fun _ => fun
  | [d1, d2, d3] => { results := [.lit (.bool false)], args := [d1, d2, d3] }
  | _ => none }
def SessionFiltersWrongFalsely : Prop := sessionFiltersRow.holds Try.pinned (OpenSpec.ofChange sessionFiltersWrong)

/-- 'clockworklaw37.SessionRecords': WHATEVER THE INPUT: true; the input reads as it did. -/
def sessionRecordsSpec : ChangeSpec := { name := "sessionRecords", fn := fun _ => fun
  | [d1, d2, d3] => { results := [.lit (.bool true)], args := [d1, d2, d3] }
  | _ => none }
def sessionRecordsRow : OpenClaim := { program := "ytbiongfnbbnndaa", sum := "70da85661bf25d1b1f22b3efa27d724ce357f890c289b061e6c6f4dd718c9365", func := "clockwork/clockworklaw37.SessionRecords", spec := "sessionRecords", inPlace := ["slices.overlaps[clockwork/api.Session]"], unfollowed := true, recurses := true, apart := false }
def SessionRecordsSaid : Prop := sessionRecordsRow.holds Try.pinned (OpenSpec.ofChange sessionRecordsSpec)

/-- ITS FALSE NEIGHBOUR: 'it returns false'. Refute it at one input. -/
def sessionRecordsWrong : ChangeSpec := { name := "sessionRecords", fn := fun _ => fun
  | [d1, d2, d3] => { results := [.lit (.bool false)], args := [d1, d2, d3] }
  | _ => none }
def SessionRecordsWrongFalsely : Prop := sessionRecordsRow.holds Try.pinned (OpenSpec.ofChange sessionRecordsWrong)

/-- 'clockworklaw37.SessionParts': WHATEVER THE INPUT: true; the input reads as it did. -/
def sessionPartsSpec : ChangeSpec := { name := "sessionParts", fn := fun _ => fun
  | [d1, d2] => { results := [.lit (.bool true)], args := [d1, d2] }
  | _ => none }
def sessionPartsRow : OpenClaim := { program := "ytbiongfnbbnndaa", sum := "70da85661bf25d1b1f22b3efa27d724ce357f890c289b061e6c6f4dd718c9365", func := "clockwork/clockworklaw37.SessionParts", spec := "sessionParts", inPlace := ["slices.overlaps[clockwork/api.Session]"], unfollowed := true, recurses := true, apart := false }
def SessionPartsSaid : Prop := sessionPartsRow.holds Try.pinned (OpenSpec.ofChange sessionPartsSpec)

/-- ITS FALSE NEIGHBOUR: 'it returns false'. Refute it at one input. -/
def sessionPartsWrong : ChangeSpec := { name := "sessionParts", fn := fun _ => fun
  | [d1, d2] => { results := [.lit (.bool false)], args := [d1, d2] }
  | _ => none }
def SessionPartsWrongFalsely : Prop := sessionPartsRow.holds Try.pinned (OpenSpec.ofChange sessionPartsWrong)

/-- 'clockworklaw37.SessionCodes': WHATEVER THE INPUT: true; the input reads as it did. -/
def sessionCodesSpec : ChangeSpec := { name := "sessionCodes", fn := fun _ => fun
  | [d1, d2, d3] => { results := [.lit (.bool true)], args := [d1, d2, d3] }
  | _ => none }
def sessionCodesRow : OpenClaim := { program := "ytbiongfnbbnndaa", sum := "70da85661bf25d1b1f22b3efa27d724ce357f890c289b061e6c6f4dd718c9365", func := "clockwork/clockworklaw37.SessionCodes", spec := "sessionCodes", inPlace := ["internal/abi.NoEscape", "slices.overlaps[clockwork/api.Session]"], unfollowed := true, recurses := true, apart := false }
def SessionCodesSaid : Prop := sessionCodesRow.holds Try.pinned (OpenSpec.ofChange sessionCodesSpec)

/-- ITS FALSE NEIGHBOUR: 'it returns false'. Refute it at one input. -/
def sessionCodesWrong : ChangeSpec := { name := "sessionCodes", fn := fun _ => fun
  | [d1, d2, d3] => { results := [.lit (.bool false)], args := [d1, d2, d3] }
  | _ => none }
def SessionCodesWrongFalsely : Prop := sessionCodesRow.holds Try.pinned (OpenSpec.ofChange sessionCodesWrong)

/-- 'clockworklaw37.SessionRoundTrips': WHATEVER THE INPUT: true; the input reads as it did. -/
def sessionRoundTripsSpec : ChangeSpec := { name := "sessionRoundTrips", fn := fun _ => fun
  | [d1, d2, d3] => { results := [.lit (.bool true)], args := [d1, d2, d3] }
  | _ => none }
def sessionRoundTripsRow : OpenClaim := { program := "ytbiongfnbbnndaa", sum := "70da85661bf25d1b1f22b3efa27d724ce357f890c289b061e6c6f4dd718c9365", func := "clockwork/clockworklaw37.SessionRoundTrips", spec := "sessionRoundTrips", inPlace := ["internal/abi.NoEscape", "slices.overlaps[clockwork/api.Session]"], unfollowed := true, recurses := true, apart := false }
def SessionRoundTripsSaid : Prop := sessionRoundTripsRow.holds Try.pinned (OpenSpec.ofChange sessionRoundTripsSpec)

/-- ITS FALSE NEIGHBOUR: 'it returns false'. Refute it at one input. -/
def sessionRoundTripsWrong : ChangeSpec := { name := "sessionRoundTrips", fn := fun _ => fun
  | [d1, d2, d3] => { results := [.lit (.bool false)], args := [d1, d2, d3] }
  | _ => none }
def SessionRoundTripsWrongFalsely : Prop := sessionRoundTripsRow.holds Try.pinned (OpenSpec.ofChange sessionRoundTripsWrong)

/- THE SECOND FORM. 'bulk': how many values and letters a reading holds, each counted each time it is reached (what is shared counts as often as it is met; a slice's spare places count too). A statement '..UptoSaid' is the law's where the arguments, and the package variables that the reading takes, are together of bulk at most 1048576: NARROWER than '..Said'. Prove '..Said' where nothing that the law and all that it calls make is longer than what came in: it says more and counts as full. Else prove '..UptoSaid'. A law counts once. -/
mutual
def uptoBulk {H : Type} : DataW H → Nat
  | .lit (.string bytes) => bytes.length + 1
  | .lit _ => 1
  | .nil => 1
  | .ptr d => uptoBulk d + 1
  | .slice elems spare => uptoBulkAll elems + uptoBulkAll spare + 1
  | .agg parts => uptoBulkAll parts + 1
  | .iface _ d => uptoBulk d + 1
  | .map entries => uptoBulkEntries entries + 1
  | .held _ => 1
def uptoBulkAll {H : Type} : List (DataW H) → Nat
  | [] => 0
  | d :: r => uptoBulk d + uptoBulkAll r
def uptoBulkEntries {H : Type} : List (Lit × DataW H) → Nat
  | [] => 0
  | x :: r => uptoBulkEntry x + uptoBulkEntries r
def uptoBulkEntry {H : Type} : Lit × DataW H → Nat
  | (.string bytes, d) => bytes.length + uptoBulk d + 1
  | (_, d) => uptoBulk d + 1
 end
def uptoSmall : (H : Type) → List (DataW H) → Bool := fun _ ds => decide (uptoBulkAll ds ≤ 1048576)
def OpenSpec.upto (s : _root_.Go.ChangeSpec) : _root_.Go.OpenSpec := { _root_.Go.OpenSpec.ofChange s with cond := some uptoSmall }

/-- 'clockworklaw37.SessionOnce', WHERE WHAT IT READS IS OF BULK AT MOST 1048576: true; the input reads as it did. -/
def sessionOnceUptoRow : OpenClaim := { program := "ytbiongfnbbnndaa", sum := "70da85661bf25d1b1f22b3efa27d724ce357f890c289b061e6c6f4dd718c9365", func := "clockwork/clockworklaw37.SessionOnce", spec := "sessionOnce", inPlace := ["slices.overlaps[clockwork/api.Session]"], unfollowed := true, recurses := true, apart := false, narrowed := true }
def SessionOnceUptoSaid : Prop := sessionOnceUptoRow.holds Try.pinned (OpenSpec.upto sessionOnceSpec)

/-- 'clockworklaw37.SessionFilters', WHERE WHAT IT READS IS OF BULK AT MOST 1048576: true; the input reads as it did. -/
def sessionFiltersUptoRow : OpenClaim := { program := "ytbiongfnbbnndaa", sum := "70da85661bf25d1b1f22b3efa27d724ce357f890c289b061e6c6f4dd718c9365", func := "clockwork/clockworklaw37.SessionFilters", spec := "sessionFilters", inPlace := ["slices.overlaps[clockwork/api.Session]"], unfollowed := true, recurses := true, apart := false, narrowed := true }
def SessionFiltersUptoSaid : Prop := sessionFiltersUptoRow.holds Try.pinned (OpenSpec.upto sessionFiltersSpec)

/-- 'clockworklaw37.SessionRecords', WHERE WHAT IT READS IS OF BULK AT MOST 1048576: true; the input reads as it did. -/
def sessionRecordsUptoRow : OpenClaim := { program := "ytbiongfnbbnndaa", sum := "70da85661bf25d1b1f22b3efa27d724ce357f890c289b061e6c6f4dd718c9365", func := "clockwork/clockworklaw37.SessionRecords", spec := "sessionRecords", inPlace := ["slices.overlaps[clockwork/api.Session]"], unfollowed := true, recurses := true, apart := false, narrowed := true }
def SessionRecordsUptoSaid : Prop := sessionRecordsUptoRow.holds Try.pinned (OpenSpec.upto sessionRecordsSpec)

/-- 'clockworklaw37.SessionParts', WHERE WHAT IT READS IS OF BULK AT MOST 1048576: true; the input reads as it did. -/
def sessionPartsUptoRow : OpenClaim := { program := "ytbiongfnbbnndaa", sum := "70da85661bf25d1b1f22b3efa27d724ce357f890c289b061e6c6f4dd718c9365", func := "clockwork/clockworklaw37.SessionParts", spec := "sessionParts", inPlace := ["slices.overlaps[clockwork/api.Session]"], unfollowed := true, recurses := true, apart := false, narrowed := true }
def SessionPartsUptoSaid : Prop := sessionPartsUptoRow.holds Try.pinned (OpenSpec.upto sessionPartsSpec)

/-- 'clockworklaw37.SessionCodes', WHERE WHAT IT READS IS OF BULK AT MOST 1048576: true; the input reads as it did. -/
def sessionCodesUptoRow : OpenClaim := { program := "ytbiongfnbbnndaa", sum := "70da85661bf25d1b1f22b3efa27d724ce357f890c289b061e6c6f4dd718c9365", func := "clockwork/clockworklaw37.SessionCodes", spec := "sessionCodes", inPlace := ["internal/abi.NoEscape", "slices.overlaps[clockwork/api.Session]"], unfollowed := true, recurses := true, apart := false, narrowed := true }
def SessionCodesUptoSaid : Prop := sessionCodesUptoRow.holds Try.pinned (OpenSpec.upto sessionCodesSpec)

/-- 'clockworklaw37.SessionRoundTrips', WHERE WHAT IT READS IS OF BULK AT MOST 1048576: true; the input reads as it did. -/
def sessionRoundTripsUptoRow : OpenClaim := { program := "ytbiongfnbbnndaa", sum := "70da85661bf25d1b1f22b3efa27d724ce357f890c289b061e6c6f4dd718c9365", func := "clockwork/clockworklaw37.SessionRoundTrips", spec := "sessionRoundTrips", inPlace := ["internal/abi.NoEscape", "slices.overlaps[clockwork/api.Session]"], unfollowed := true, recurses := true, apart := false, narrowed := true }
def SessionRoundTripsUptoSaid : Prop := sessionRoundTripsUptoRow.holds Try.pinned (OpenSpec.upto sessionRoundTripsSpec)

end Rows
end Go.Proofs.Ytbiongfnbbnndaa
