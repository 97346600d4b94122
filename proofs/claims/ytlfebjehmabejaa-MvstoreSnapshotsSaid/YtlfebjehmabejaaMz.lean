/- Chapter 22: arguments of MvstoreSnapshots. -/
import Derived.Test.YtlfebjehmabejaaMy
import Derived.Test.YtlfebjehmabejaaMun
set_option linter.unusedSimpArgs false
set_option linter.unusedVariables false
namespace Go.Proofs.Ytlfebjehmabejaa
open Go Ab
set_option maxRecDepth 100000
theorem cells_prs : Try.prog.cellsOf 25 = 1 := by kernel_rfl
theorem bytes_prs : Try.prog.bytesOf 25 = 24 := by kernel_rfl
theorem un_step {n : Nat} {xs : List Atom} (h : Has Try.prog (n + 4) 25 xs) : ∃ l : List Pr, xs = stR l ∧ Pairs.fit l := by
  have h0 := h
  unfold Has at h; rw [Try.underlying25] at h
  obtain ⟨rows, rfl, _⟩ := h
  obtain ⟨l, e, hl⟩ := un_pairs h0
  exact ⟨l, by rw [e]; rfl, hl⟩
theorem un_steps {n : Nat} {x : Atom} (h : Has Try.prog (n + 5) 34 [x]) : ∃ l : List (List Pr), x = .slice 1 (l.map stR) ∧ StepsFit l := by
  unfold Has at h; rw [Try.underlying34] at h
  obtain ⟨rows, he, hn, hb, hr⟩ := h
  obtain ⟨l, rfl, hl⟩ := un_rows fun r hrr => un_step (hr r hrr)
  rw [List.length_map] at hn hb
  rw [bytes_prs] at hb
  unfold reachBytes at hb
  cases he
  exact ⟨l, by rw [cells_prs], ⟨by omega, fun m hm => ⟨(hl m hm).len, (hl m hm).all⟩⟩⟩
end Go.Proofs.Ytlfebjehmabejaa
