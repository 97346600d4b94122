/- The arguments as stores. -/
import Derived.Test.YtlfebjehmabejaaMv
import Derived.Test.YtlfebjehmabejaaAbO
set_option linter.unusedSimpArgs false
set_option linter.unusedVariables false
namespace Go.Proofs.Ytlfebjehmabejaa
open Go Ab
set_option maxRecDepth 100000

theorem un_string {n : Nat} {xs : List Atom} (h : Has Try.prog (n + 1) 9 xs) : ∃ s : ByteArray, xs = [.str s] ∧ s.size ≤ reachBytes := by
  unfold Has at h; rw [Try.underlying9] at h; exact h
theorem un_i64 {n : Nat} {xs : List Atom} (h : Has Try.prog (n + 1) 2 xs) : ∃ m, xs = [.int .i64 m] ∧ (Lit.int IntKind.i64 m).wf = true := by
  unfold Has at h; rw [Try.underlying2] at h; exact h
theorem un_int {n : Nat} {xs : List Atom} (h : Has Try.prog (n + 1) 3 xs) : ∃ m, xs = [.int .i64 m] := by
  unfold Has at h; rw [Try.underlying3] at h; obtain ⟨m, h, _⟩ := h; exact ⟨m, h⟩
theorem un_value {n : Nat} {xs : List Atom} (h : Has Try.prog (n + 2) 54 xs) : ∃ v : Vl, xs = v.row ∧ v.s.size ≤ 9223372036854775807 := by
  unfold Has at h; rw [Try.underlying54] at h
  obtain ⟨p1, r1, rfl, h1, p2, r2, rfl, h2, p3, r3, rfl, h3, rfl⟩ := h
  obtain ⟨a, rfl⟩ := un_int h1
  obtain ⟨b, rfl, _⟩ := un_i64 h2
  obtain ⟨c, rfl, hc⟩ := un_string h3
  exact ⟨⟨a, b, c⟩, rfl, by unfold reachBytes at hc; simp only; omega⟩
theorem un_version {n : Nat} {xs : List Atom} (h : Has Try.prog (n + 3) 56 xs) : ∃ v : Ver, xs = v.row ∧ v.fit := by
  unfold Has at h; rw [Try.underlying56] at h
  obtain ⟨p1, r1, rfl, h1, p2, r2, rfl, h2, rfl⟩ := h
  obtain ⟨a, rfl, _⟩ := un_i64 h1
  obtain ⟨v, rfl, hv⟩ := un_value h2
  exact ⟨⟨a, v⟩, rfl, hv⟩
theorem un_rows {α : Type} {f : α → List Atom} {Q : α → Prop} : ∀ {rows : List (List Atom)}, (∀ r ∈ rows, ∃ a, r = f a ∧ Q a) → ∃ l : List α, rows = l.map f ∧ ∀ a ∈ l, Q a
  | [], _ => ⟨[], rfl, fun a h => by cases h⟩
  | r :: rows, h => by
    obtain ⟨a, rfl, ha⟩ := h r (by simp)
    obtain ⟨l, rfl, hl⟩ := un_rows (rows := rows) fun r hr => h r (by simp [hr])
    exact ⟨a :: l, rfl, fun b hb => by
      rcases List.mem_cons.1 hb with rfl | hb
      · exact ha
      · exact hl b hb⟩
theorem cells_ver : Try.prog.cellsOf 56 = 4 := by kernel_rfl
theorem cells_row : Try.prog.cellsOf 52 = 2 := by kernel_rfl
theorem cells_store : Try.prog.cellsOf 24 = 3 := by kernel_rfl
def Row.small (r : Row) : Prop := r.vs.length * 40 ≤ 140737488351232 ∧ r.key.size ≤ 140737488351232
def Store.small (s : Store) : Prop := s.rows.length * 40 ≤ 140737488351232 ∧ ∀ r ∈ s.rows, r.small
theorem bytes_ver : Try.prog.bytesOf 56 = 40 := by kernel_rfl
theorem bytes_row : Try.prog.bytesOf 52 = 40 := by kernel_rfl
theorem bytes_store : Try.prog.bytesOf 24 = 40 := by kernel_rfl
theorem un_row {n : Nat} {xs : List Atom} (h : Has Try.prog (n + 5) 52 xs) : ∃ v : Row, xs = v.row ∧ v.fit ∧ v.small := by
  unfold Has at h; rw [Try.underlying52] at h
  obtain ⟨p1, r1, rfl, h1, p2, r2, rfl, h2, rfl⟩ := h
  obtain ⟨a, rfl, ha⟩ := un_string h1
  change Has Try.prog (n + 4) 50 p2 at h2
  unfold Has at h2; rw [Try.underlying50] at h2
  obtain ⟨rows, rfl, hn, hb, hr⟩ := h2
  obtain ⟨l, rfl, hl⟩ := un_rows fun r hrr => un_version (hr r hrr)
  rw [List.length_map] at hn hb
  rw [bytes_ver] at hb
  unfold reachBytes at ha hb
  exact ⟨⟨a, l⟩, by rw [cells_ver]; rfl, ⟨by simp only; omega, hn, hl⟩, by simp only; omega, by simp only; omega⟩
theorem un_store {n : Nat} {xs : List Atom} (h : Has Try.prog (n + 7) 24 xs) : ∃ v : Store, xs = v.row ∧ v.fit ∧ v.small := by
  unfold Has at h; rw [Try.underlying24] at h
  obtain ⟨p1, r1, rfl, h1, p2, r2, rfl, h2, p3, r3, rfl, h3, rfl⟩ := h
  obtain ⟨a, rfl, _⟩ := un_i64 h1
  obtain ⟨b, rfl, _⟩ := un_i64 h2
  change Has Try.prog (n + 6) 22 p3 at h3
  unfold Has at h3; rw [Try.underlying22] at h3
  obtain ⟨rows, rfl, hn, hb, hr⟩ := h3
  obtain ⟨l, rfl, hl⟩ := un_rows fun r hrr => un_row (hr r hrr)
  rw [List.length_map] at hn hb
  rw [bytes_row] at hb
  unfold reachBytes at hb
  exact ⟨⟨a, b, l⟩, by rw [cells_row]; rfl, ⟨hn, fun r hr => (hl r hr).1⟩, by simp only; omega, fun r hr => (hl r hr).2⟩
theorem un_string1 {n : Nat} {x : Atom} (h : Has Try.prog (n + 1) 9 [x]) : ∃ s : ByteArray, x = .str s ∧ s.size ≤ 9223372036854775807 := by
  obtain ⟨s, e, hs⟩ := un_string h
  unfold reachBytes at hs
  exact ⟨s, by simpa using e, by omega⟩
end Go.Proofs.Ytlfebjehmabejaa
