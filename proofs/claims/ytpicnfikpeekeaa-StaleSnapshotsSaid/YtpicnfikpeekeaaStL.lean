/- Chapter 52: the example. -/
import Derived.Test.YtpicnfikpeekeaaSt
import Derived.Test.YtpicnfikpeekeaaAbP
namespace Go.Proofs.Ytpicnfikpeekeaa
open Go Ab
attribute [local irreducible] awp aops aop asoft aeff aloop acall

def exL : List Store := [⟨0, 5, []⟩, ⟨0, 8, []⟩]
theorem ex_fit : ∀ s ∈ exL, s.fit := by
  intro s hs
  simp [exL] at hs
  rcases hs with rfl | rfl <;> exact ⟨by simp, by simp⟩
theorem ex_choose (nw bd : Int) (hbd : bd ≤ 9223372036854775807) : PDen Try.prog 8 [.a (.slice 3 [[.int .i64 0, .int .i64 5, .nils], [.int .i64 0, .int .i64 8, .nils]]), .a (.int .i64 nw), .a (.int .i64 bd)] (chooseA exL nw bd) := by
  refine PDen.head (choose_den exL nw bd (by decide) ex_fit hbd) (RLe.slice ?_)
  exact ⟨⟨RLe.refl _, RLe.refl _, RLe.nils 2, trivial⟩, ⟨RLe.refl _, RLe.refl _, RLe.nils 2, trivial⟩, trivial⟩
theorem ex1 : chooseA exL 7 2 = .tup [.a (.int .i64 1), .a (.int .i64 7), .a (.int .i64 0)] := by
  rfl
theorem ex2 : chooseA exL 10 1 = .tup [.a (.int .i64 0), .a (.int .i64 0), .a (.int .i64 15)] := by
  rfl

set_option maxRecDepth 100000 in
theorem examples_den : PDen Try.prog 9 [] (.a (.bool true)) := by
  refine den_of_body k_law52_examples ⟨rfl, Nat.le_of_ble_eq_true rfl, thaw_intro ?_⟩
  unfold c_law52_examples
  simp only [go_sem]
  refine t_call_intro (ex_choose 7 2 (by omega)) ?_
  rw [ex1]
  simp only [go_sem]
  refine t_call_intro (ex_choose 10 1 (by omega)) ?_
  rw [ex2]
  simp only [beq_self_eq_true, go_sem]
  simp only [aresult, ares, go_sem]
end Go.Proofs.Ytpicnfikpeekeaa
