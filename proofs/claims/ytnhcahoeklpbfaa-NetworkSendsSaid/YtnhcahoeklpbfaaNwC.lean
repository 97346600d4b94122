/- The package network and the reference of layer 40: Same, copied, without, Deliver; valid messages, lists that are equal. -/
import Derived.Test.YtnhcahoeklpbfaaNwB
set_option linter.unusedSimpArgs false
set_option linter.unusedVariables false
namespace Go.Proofs.Ytnhcahoeklpbfaa
open Go Ab
attribute [local irreducible] awp aops aop asoft aeff aloop acall
attribute [local go_sem] Msg.row itemsA

def allEq {α : Type} (f : α → α → Bool) : List α → List α → Bool
  | [], [] => true
  | x :: xs, y :: ys => f x y && allEq f xs ys
  | _, _ => false
theorem allEq_len {α : Type} {f : α → α → Bool} : ∀ {a b : List α}, a.length ≠ b.length → allEq f a b = false
  | [], [], h => absurd rfl h
  | [], _ :: _, _ => rfl
  | _ :: _, [], _ => rfl
  | x :: xs, y :: ys, h => by simp only [allEq]; rw [allEq_len (a := xs) (b := ys) (by simpa using h)]; simp
theorem allEq_step {α : Type} {f : α → α → Bool} {a b : List α} (k : Nat) (ha : k < a.length) (hb : k < b.length) : allEq f (a.drop k) (b.drop k) = (f a[k] b[k] && allEq f (a.drop (k + 1)) (b.drop (k + 1))) := by
  rw [List.drop_eq_getElem_cons ha, List.drop_eq_getElem_cons hb]; rfl
theorem allEq_refl {α : Type} {f : α → α → Bool} (hf : ∀ x, f x x = true) : ∀ (a : List α), allEq f a a = true
  | [] => rfl
  | x :: xs => by simp [allEq, hf, allEq_refl hf xs]

def itmEq (x y : Itm) : Bool := x.term == y.term && (x.data.toList == y.data.toList && true)
theorem itmEq_refl (x : Itm) : itmEq x x = true := by simp [itmEq]
def sameM (a b : Msg) : Bool := (a.kind == b.kind) && (a.frm == b.frm) && (a.to == b.to) && (a.term == b.term) && (a.index == b.index) && (a.logTerm == b.logTerm) && (a.commit == b.commit) && (a.ok == b.ok) && allEq itmEq a.items b.items
theorem sameM_refl (a : Msg) : sameM a a = true := by simp [sameM, allEq_refl itmEq_refl]

def unusedM (m : Msg) : Bool :=
  if m.kind = 1 then (m.commit == 0) && !m.ok && ((m.items.length : Int) == 0)
  else if m.kind = 2 then (m.index == 0) && (m.logTerm == 0) && (m.commit == 0) && ((m.items.length : Int) == 0)
  else if m.kind = 3 then !m.ok
  else (m.logTerm == 0) && (m.commit == 0) && ((m.items.length : Int) == 0)

theorem unused_plain (m : Msg) (h1 : 1 ≤ m.kind) (h2 : m.kind ≤ 4) : unusedM m = plainM m := by
  unfold unusedM plainM
  split
  · rfl
  · split
    · rfl
    · split
      · rfl
      · rw [if_pos (by omega)]

end Go.Proofs.Ytnhcahoeklpbfaa
