/- The laws NetworkGroups and NetworkValid: their functions return true; arguments that are messages. -/
import Derived.Test.YtnhcahoeklpbfaaNwE
set_option linter.unusedSimpArgs false
set_option linter.unusedVariables false
namespace Go.Proofs.Ytnhcahoeklpbfaa
open Go Ab
attribute [local irreducible] awp aops aop asoft aeff aloop acall
attribute [local go_sem] itemsA

theorem un_string {n : Nat} {xs : List Atom} (h : Has Try.prog (n + 1) 9 xs) : ∃ s : ByteArray, xs = [.str s] ∧ s.size ≤ reachBytes := by
  unfold Has at h; rw [Try.underlying9] at h; exact h
theorem un_int {n : Nat} {xs : List Atom} (h : Has Try.prog (n + 1) 3 xs) : ∃ m, xs = [.int .i64 m] := by
  unfold Has at h; rw [Try.underlying3] at h; obtain ⟨m, h, _⟩ := h; exact ⟨m, h⟩
theorem un_bool {n : Nat} {xs : List Atom} (h : Has Try.prog (n + 1) 4 xs) : ∃ b, xs = [.bool b] := by
  unfold Has at h; rw [Try.underlying4] at h; exact h
theorem un_rows {α : Type} {f : α → List Atom} {Q : α → Prop} : ∀ {rows : List (List Atom)}, (∀ r ∈ rows, ∃ a, r = f a ∧ Q a) → ∃ l : List α, rows = l.map f ∧ ∀ a ∈ l, Q a
  | [], _ => ⟨[], rfl, fun a h => by cases h⟩
  | r :: rows, h => by
    obtain ⟨a, rfl, ha⟩ := h r (by simp)
    obtain ⟨l, rfl, hl⟩ := un_rows (rows := rows) fun r hr => h r (by simp [hr])
    exact ⟨a :: l, rfl, fun b hb => by
      rcases List.mem_cons.1 hb with rfl | hb
      · exact ha
      · exact hl b hb⟩
theorem un_item {n : Nat} {xs : List Atom} (h : Has Try.prog (n + 2) 39 xs) : ∃ v : Itm, xs = v.row ∧ v.data.size ≤ reachBytes := by
  unfold Has at h; rw [Try.underlying39] at h
  obtain ⟨p1, r1, rfl, h1, p2, r2, rfl, h2, rfl⟩ := h
  obtain ⟨a, rfl⟩ := un_int h1
  obtain ⟨b, rfl, hb⟩ := un_string h2
  exact ⟨⟨a, b⟩, rfl, hb⟩
theorem cells_item : Try.prog.cellsOf 39 = 2 := by kernel_rfl
theorem bytes_item : Try.prog.bytesOf 39 = 24 := by kernel_rfl
theorem cells_msg : Try.prog.cellsOf 25 = 9 := by kernel_rfl
theorem bytes_msg : Try.prog.bytesOf 25 = 88 := by kernel_rfl
theorem un_msg {n : Nat} {xs : List Atom} (h : Has Try.prog (n + 4) 25 xs) : ∃ m : Msg, xs = m.row ∧ m.items.length * 24 ≤ 140737488351232 := by
  unfold Has at h; rw [Try.underlying25] at h
  obtain ⟨p1, r1, rfl, h1, p2, r2, rfl, h2, p3, r3, rfl, h3, p4, r4, rfl, h4, p5, r5, rfl, h5, p6, r6, rfl, h6, p7, r7, rfl, h7, p8, r8, rfl, h8, p9, r9, rfl, h9, rfl⟩ := h
  obtain ⟨x1, rfl⟩ := un_int h1
  obtain ⟨x2, rfl⟩ := un_int h2
  obtain ⟨x3, rfl⟩ := un_int h3
  obtain ⟨x4, rfl⟩ := un_int h4
  obtain ⟨x5, rfl⟩ := un_int h5
  obtain ⟨x6, rfl⟩ := un_int h6
  obtain ⟨x7, rfl⟩ := un_int h7
  obtain ⟨x8, rfl⟩ := un_bool h8
  change Has Try.prog (n + 3) 23 p9 at h9
  unfold Has at h9; rw [Try.underlying23] at h9
  obtain ⟨rows, rfl, hn, hb, hr⟩ := h9
  obtain ⟨l, rfl, hl⟩ := un_rows fun r hrr => un_item (hr r hrr)
  rw [List.length_map] at hn hb
  rw [bytes_item] at hb
  unfold reachBytes at hb
  exact ⟨⟨x1, x2, x3, x4, x5, x6, x7, x8, l⟩, by rw [cells_item]; rfl, by simp only; omega⟩
theorem un_msgs {n : Nat} {x : Atom} (h : Has Try.prog (n + 5) 22 [x]) : ∃ l : List Msg, x = .slice 9 (l.map Msg.row) ∧ Msgs.fit l := by
  unfold Has at h; rw [Try.underlying22] at h
  obtain ⟨rows, he, hn, hb, hr⟩ := h
  obtain ⟨l, rfl, hl⟩ := un_rows fun r hrr => un_msg (hr r hrr)
  rw [List.length_map] at hn hb
  rw [bytes_msg] at hb
  unfold reachBytes at hb
  cases he
  exact ⟨l, by rw [cells_msg], by omega, hl⟩

theorem valid_in (m : Msg) (n k : Int) (h : validMsg m n = true) (hk : -1 ≤ k ∧ k ≤ 8) : validMsg m k = (decide ((if m.to > m.frm then m.to else m.frm) ≤ k) && decide (k ≤ 7)) := by
  simp only [validMsg, inB, Bool.and_eq_true, decide_eq_true_eq, Bool.not_eq_true', beq_eq_false_iff_ne, ne_eq] at h
  have e : validMsg m k = ((inB k 1 7 && inB m.frm 1 k && inB m.to 1 k && !(m.frm == m.to)) && (inB m.term 1 1099511627776 && inB m.index 0 1099511627776 && inB m.logTerm 0 1099511627776 && inB m.commit 0 1099511627776) && validItems m.items && plainM m) := rfl
  rw [e]
  simp only [inB]
  rw [Bool.eq_iff_iff]
  simp only [Bool.and_eq_true, decide_eq_true_eq, Bool.not_eq_true', beq_eq_false_iff_ne, ne_eq]
  constructor
  · intro h'
    split <;> omega
  · intro h'
    refine ⟨⟨⟨⟨⟨⟨⟨?_, ?_⟩, ?_, ?_⟩, ?_, ?_⟩, by omega⟩, h.1.1.2⟩, h.1.2⟩, h.2⟩ <;> split at h' <;> omega

end Go.Proofs.Ytnhcahoeklpbfaa
