/- A region that draws its order, whose operations read or call functions that make memory but leave alone what was there: one walk, in the order of the text. -/
import Derived.WalkKit
import Derived.BigQuiet
namespace Go.Soft
open Go.RowKit

/-- A world behind w, in which all that was there is as it was. -/
structure After (w : World) where
  val : World
  below : Below w.heap.size w val
instance afterSome (w : World) : Nonempty (After w) := ⟨⟨w, Below.refl _ _⟩⟩

section
variable {P : Program}

theorem region {id : Nat} {Q : Exit → Act → World → Prop} {a : Act} {w : World} {l : List Oper} (hm : P.follows .mixedOrders = true) (hB : Region.lexB .any l.toArray = true)
    (h : wpQuiet P l.toArray (fun w' => ∃ z : After w, w' = z.val) (fun a' => ∀ w', (∃ z : After w, w' = z.val) → Q .normal a' w') l a) : (Code.region id l.toArray true).wp P Q a w :=
  wp_region_quiet (C := fun w' => ∃ z : After w, w' = z.val) hm hB ⟨⟨w.drew, Below.drew (Below.refl _ _)⟩, rfl⟩ (by simpa using h)

/-- A callee that makes memory. -/
theorem call {f : FuncId} {args : Array Value} {w : World} {z : After w} {v : Value} (h : Calls P f args z.val fun e w' => e = .returned v ∧ Below z.val.heap.size z.val w') :
    Calls P f args z.val fun e w'' => e = .returned v ∧ ∃ z' : After w, w'' = z'.val :=
  h.mono fun _ w' ⟨he, hb⟩ => ⟨he, ⟨w', z.below.trans (hb.mono z.below.size)⟩, rfl⟩
/-- A callee that leaves the world alone. -/
theorem same {f : FuncId} {args : Array Value} {w : World} {z : After w} {v : Value} (h : Calls P f args z.val fun e w' => e = .returned v ∧ z.val = w') :
    Calls P f args z.val fun e w'' => e = .returned v ∧ ∃ z' : After w, w'' = z'.val :=
  h.mono fun _ _ ⟨he, hb⟩ => ⟨he, z, hb.symm⟩
end
end Go.Soft
