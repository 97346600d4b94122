/- Chapter 22: arguments that are lists of pairs. -/
import Derived.Test.YtlfebjehmabejaaUs
import Derived.Test.YtlfebjehmabejaaMwB
set_option linter.unusedSimpArgs false
set_option linter.unusedVariables false
namespace Go.Proofs.Ytlfebjehmabejaa
open Go Ab
set_option maxRecDepth 100000
theorem un_pair {n : Nat} {xs : List Atom} (h : Has Try.prog (n + 3) 58 xs) : ∃ v : Pr, xs = v.row ∧ v.fit := by
  unfold Has at h; rw [Try.underlying58] at h
  obtain ⟨p1, r1, rfl, h1, p2, r2, rfl, h2, rfl⟩ := h
  obtain ⟨a, rfl, ha⟩ := un_string h1
  obtain ⟨v, rfl, hv⟩ := un_value h2
  unfold reachBytes at ha
  exact ⟨⟨a, v⟩, rfl, by simp only; omega, hv⟩
theorem cells_pair : Try.prog.cellsOf 58 = 4 := by kernel_rfl
theorem bytes_pair : Try.prog.bytesOf 58 = 48 := by kernel_rfl
structure Pairs.fit (l : List Pr) : Prop where
  len : l.length * 40 ≤ 140737488351232
  all : ∀ p ∈ l, p.fit
theorem un_pairs {n : Nat} {x : Atom} (h : Has Try.prog (n + 4) 25 [x]) : ∃ l : List Pr, x = .slice 4 (l.map Pr.row) ∧ Pairs.fit l := by
  unfold Has at h; rw [Try.underlying25] at h
  obtain ⟨rows, he, hn, hb, hr⟩ := h
  obtain ⟨l, rfl, hl⟩ := un_rows fun r hrr => un_pair (hr r hrr)
  rw [List.length_map] at hn hb
  rw [bytes_pair] at hb
  unfold reachBytes at hb
  cases he
  exact ⟨l, by rw [cells_pair], ⟨by omega, hl⟩⟩
end Go.Proofs.Ytlfebjehmabejaa
