/- Chapter 06: arguments that are lists of pairs. -/
import Derived.Test.YtldonmombfpleaaSa
import Derived.Test.YtldonmombfpleaaAbO
set_option linter.unusedSimpArgs false
set_option linter.unusedVariables false
namespace Go.Proofs.Ytldonmombfpleaa
open Go Ab
theorem un_string {n : Nat} {xs : List Atom} (h : Has Try.prog (n + 1) 9 xs) : ∃ s : ByteArray, xs = [.str s] ∧ s.size ≤ reachBytes := by
  unfold Has at h; rw [Try.underlying9] at h; exact h
theorem un_i64 {n : Nat} {xs : List Atom} (h : Has Try.prog (n + 1) 2 xs) : ∃ m, xs = [.int .i64 m] ∧ (Lit.int IntKind.i64 m).wf = true := by
  unfold Has at h; rw [Try.underlying2] at h; exact h
theorem un_int {n : Nat} {xs : List Atom} (h : Has Try.prog (n + 1) 3 xs) : ∃ m, xs = [.int .i64 m] := by
  unfold Has at h; rw [Try.underlying3] at h; obtain ⟨m, h, _⟩ := h; exact ⟨m, h⟩
theorem un_value {n : Nat} {xs : List Atom} (h : Has Try.prog (n + 2) 30 xs) : ∃ v : Vl, xs = v.row ∧ v.s.size ≤ 9223372036854775807 := by
  unfold Has at h; rw [Try.underlying30] at h
  obtain ⟨p1, r1, rfl, h1, p2, r2, rfl, h2, p3, r3, rfl, h3, rfl⟩ := h
  obtain ⟨a, rfl⟩ := un_int h1
  obtain ⟨b, rfl, _⟩ := un_i64 h2
  obtain ⟨c, rfl, hc⟩ := un_string h3
  exact ⟨⟨a, b, c⟩, rfl, by unfold reachBytes at hc; simp only; omega⟩
theorem un_rows {α : Type} {f : α → List Atom} {Q : α → Prop} : ∀ {rows : List (List Atom)}, (∀ r ∈ rows, ∃ a, r = f a ∧ Q a) → ∃ l : List α, rows = l.map f ∧ ∀ a ∈ l, Q a
  | [], _ => ⟨[], rfl, fun a h => by cases h⟩
  | r :: rows, h => by
    obtain ⟨a, rfl, ha⟩ := h r (by simp)
    obtain ⟨l, rfl, hl⟩ := un_rows (rows := rows) fun r hr => h r (by simp [hr])
    exact ⟨a :: l, rfl, fun b hb => by
      rcases List.mem_cons.1 hb with rfl | hb
      · exact ha
      · exact hl b hb⟩
theorem un_pair {n : Nat} {xs : List Atom} (h : Has Try.prog (n + 3) 33 xs) : ∃ v : Pr, xs = v.row ∧ v.fit := by
  unfold Has at h; rw [Try.underlying33] at h
  obtain ⟨p1, r1, rfl, h1, p2, r2, rfl, h2, rfl⟩ := h
  obtain ⟨a, rfl, ha⟩ := un_string h1
  obtain ⟨v, rfl, hv⟩ := un_value h2
  unfold reachBytes at ha
  exact ⟨⟨a, v⟩, rfl, by simp only; omega, hv⟩
theorem cells_pair : Try.prog.cellsOf 33 = 4 := by kernel_rfl
theorem bytes_pair : Try.prog.bytesOf 33 = 48 := by kernel_rfl
structure Pairs.fit (l : List Pr) : Prop where
  len : l.length * 40 ≤ 140737488351232
  all : ∀ p ∈ l, p.fit
theorem un_pairs {n : Nat} {x : Atom} (h : Has Try.prog (n + 4) 22 [x]) : ∃ l : List Pr, x = .slice 4 (l.map Pr.row) ∧ Pairs.fit l := by
  unfold Has at h; rw [Try.underlying22] at h
  obtain ⟨rows, he, hn, hb, hr⟩ := h
  obtain ⟨l, rfl, hl⟩ := un_rows fun r hrr => un_pair (hr r hrr)
  rw [List.length_map] at hn hb
  rw [bytes_pair] at hb
  unfold reachBytes at hb
  cases he
  exact ⟨l, by rw [cells_pair], ⟨by omega, hl⟩⟩
theorem un_range {n : Nat} {xs : List Atom} (h : Has Try.prog (n + 2) 37 xs) : ∃ v : Rg, xs = v.row ∧ v.fit := by
  unfold Has at h; rw [Try.underlying37] at h
  obtain ⟨p1, r1, rfl, h1, p2, r2, rfl, h2, rfl⟩ := h
  obtain ⟨a, rfl, ha⟩ := un_string h1
  obtain ⟨b, rfl, hb⟩ := un_string h2
  unfold reachBytes at ha hb
  exact ⟨⟨a, b⟩, rfl, by simp only; omega, by simp only; omega⟩
end Go.Proofs.Ytldonmombfpleaa
