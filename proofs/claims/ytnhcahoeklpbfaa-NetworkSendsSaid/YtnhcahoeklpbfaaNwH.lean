/- Chapter 40: the law NetworkKeeps, walked. -/
import Derived.Test.YtnhcahoeklpbfaaNwG
set_option linter.unusedSimpArgs false
set_option linter.unusedVariables false
namespace Go.Proofs.Ytnhcahoeklpbfaa
open Go Ab
attribute [local irreducible] awp aops aop asoft aeff aloop acall acallI acallT
attribute [local go_sem] itemsA

theorem Msgs.fit.ok {l : List Msg} (h : Msgs.fit l) : Msgs.ok l := ⟨by have := h.1; omega, fun m hm => by have := h.2 m hm; omega⟩
theorem Msgs.fit.take {l : List Msg} (h : Msgs.fit l) (n : Nat) : Msgs.fit (l.take n) := ⟨by have := h.1; simp; omega, fun m hm => h.2 m (List.mem_of_mem_take hm)⟩
theorem Msgs.fit.drop {l : List Msg} (h : Msgs.fit l) (n : Nat) : Msgs.fit (l.drop n) := ⟨by have := h.1; simp; omega, fun m hm => h.2 m (List.mem_of_mem_drop hm)⟩
theorem Msgs.fit.app {a b : List Msg} (ha : Msgs.fit a) (hb : Msgs.fit b) (hl : a.length + b.length ≤ 1000) : Msgs.fit (a ++ b) := ⟨by simp; omega, fun m hm => (List.mem_append.1 hm).elim (ha.2 m) (hb.2 m)⟩
theorem sameAll_refl (a : List Msg) : allEq sameM a a = true := allEq_refl sameM_refl a

theorem erase_take {α : Type} (l : List α) (i : Nat) (hi : i < l.length) : (l.eraseIdx i).take i = l.take i := by
  rw [List.eraseIdx_eq_take_drop_succ, List.take_left' (by simp; omega)]
theorem erase_drop {α : Type} (l : List α) (i : Nat) (hi : i < l.length) : (l.eraseIdx i).drop i = l.drop (i + 1) := by
  rw [List.eraseIdx_eq_take_drop_succ, List.drop_left' (by simp; omega)]
theorem erase_end {α : Type} (l : List α) (x : α) : (l ++ [x]).eraseIdx l.length = l := by
  rw [List.eraseIdx_eq_take_drop_succ]; simp
end Go.Proofs.Ytnhcahoeklpbfaa
