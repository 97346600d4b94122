/- Chapter 37: arguments of the narrower form. -/
import Derived.Test.YtbiongfnbbnndaaQh
import Derived.Test.YtbiongfnbbnndaaAbV
set_option linter.unusedSimpArgs false
set_option linter.unusedVariables false
namespace Go.Proofs.Ytbiongfnbbnndaa
open Go Ab Go.RowKit
set_option maxRecDepth 100000
attribute [local irreducible] awp aops aop asoft aeff aloop acall acallI acallT
attribute [local go_sem] Vl.row sRow
theorem unU_string {n : Nat} {xs : List Atom} (h : HasU Try.prog (n + 1) 9 xs) : ∃ s : ByteArray, xs = [.str s] ∧ s.size ≤ 1048576 := by
  unfold HasU at h; rw [Try.underlying9] at h; exact h
theorem unU_string1 {n : Nat} {x : Atom} (h : HasU Try.prog (n + 1) 9 [x]) : ∃ s : ByteArray, x = .str s := by
  obtain ⟨s, e, _⟩ := unU_string h
  cases e
  exact ⟨s, rfl⟩
theorem unU_bool {n : Nat} {xs : List Atom} (h : HasU Try.prog (n + 1) 4 xs) : ∃ b, xs = [.bool b] := by
  unfold HasU at h; rw [Try.underlying4] at h; exact h
theorem unU_i64 {n : Nat} {xs : List Atom} (h : HasU Try.prog (n + 1) 2 xs) : ∃ m, xs = [.int .i64 m] ∧ (Lit.int IntKind.i64 m).wf = true := by
  unfold HasU at h; rw [Try.underlying2] at h; exact h
theorem unU_int {n : Nat} {xs : List Atom} (h : HasU Try.prog (n + 1) 3 xs) : ∃ m, xs = [.int .i64 m] ∧ (Lit.int IntKind.i64 m).wf = true := by
  unfold HasU at h; rw [Try.underlying3] at h; exact h
theorem unU_rows {α : Type} {f : α → List Atom} {Q : α → Prop} : ∀ {rows : List (List Atom)}, (∀ r ∈ rows, ∃ a, r = f a ∧ Q a) → ∃ l : List α, rows = l.map f ∧ ∀ a ∈ l, Q a
  | [], _ => ⟨[], rfl, fun a h => by cases h⟩
  | r :: rows, h => by
    obtain ⟨a, rfl, ha⟩ := h r (by simp)
    obtain ⟨l, rfl, hl⟩ := unU_rows (rows := rows) fun r hr => h r (by simp [hr])
    exact ⟨a :: l, rfl, fun b hb => by
      rcases List.mem_cons.1 hb with rfl | hb
      · exact ha
      · exact hl b hb⟩
theorem unU_value {n : Nat} {xs : List Atom} (h : HasU Try.prog (n + 2) 96 xs) : ∃ v : Vl, xs = v.row ∧ v.full := by
  unfold HasU at h; rw [Try.underlying96] at h
  obtain ⟨p1, r1, rfl, h1, p2, r2, rfl, h2, p3, r3, rfl, h3, rfl⟩ := h
  obtain ⟨a, rfl, ha⟩ := unU_int h1
  obtain ⟨b, rfl, hb⟩ := unU_i64 h2
  obtain ⟨c, rfl, hc⟩ := unU_string h3
  exact ⟨⟨a, b, c⟩, rfl, ⟨by simp only; omega, ⟨(wf_in ha).1, (wf_in ha).2⟩, ⟨(wf_in hb).1, (wf_in hb).2⟩⟩⟩
theorem unU_vals {n : Nat} {xs : List Atom} (h : HasU Try.prog (n + 3) 30 xs) : ∃ l : List Vl, xs = [.slice 3 (l.map Vl.row)] ∧ Vls.full l := by
  unfold HasU at h; rw [Try.underlying30] at h
  obtain ⟨rows, rfl, hn, hr⟩ := h
  obtain ⟨l, rfl, hl⟩ := unU_rows fun r hrr => unU_value (hr r hrr)
  rw [List.length_map] at hn
  exact ⟨l, by rw [cells_val], ⟨by omega, hl⟩⟩
theorem unU_strs {n : Nat} {xs : List Atom} (h : HasU Try.prog (n + 2) 31 xs) : ∃ l : List ByteArray, xs = [.slice 1 (l.map sRow)] ∧ l.length * 16 ≤ 140737488351232 ∧ ∀ s ∈ l, s.size ≤ 9223372036854775807 := by
  unfold HasU at h; rw [Try.underlying31] at h
  obtain ⟨rows, rfl, hn, hr⟩ := h
  obtain ⟨l, rfl, hl⟩ := unU_rows (f := sRow) (Q := fun s => s.size ≤ 9223372036854775807) fun r hrr => by
    obtain ⟨s, e, hs⟩ := unU_string (hr r hrr)
    exact ⟨s, e, by omega⟩
  rw [List.length_map] at hn
  exact ⟨l, by rw [cells_str], by omega, hl⟩
theorem unU_fp {n : Nat} {xs : List Atom} (h : HasU Try.prog (n + 3) 33 xs) : ∃ al rd wt, xs = fpRow al rd wt ∧ (rd.length * 16 ≤ 140737488351232 ∧ ∀ s ∈ rd, s.size ≤ 9223372036854775807) ∧ (wt.length * 16 ≤ 140737488351232 ∧ ∀ s ∈ wt, s.size ≤ 9223372036854775807) := by
  unfold HasU at h; rw [Try.underlying33] at h
  obtain ⟨p1, r1, rfl, h1, p2, r2, rfl, h2, p3, r3, rfl, h3, rfl⟩ := h
  obtain ⟨a, rfl⟩ := unU_bool h1
  obtain ⟨b, rfl, hb⟩ := unU_strs h2
  obtain ⟨c, rfl, hc⟩ := unU_strs h3
  exact ⟨a, b, c, rfl, hb, hc⟩
theorem unU_req {n : Nat} {xs : List Atom} (h : HasU Try.prog (n + 4) 35 xs) : ∃ r : Req, xs = r.row ∧ r.bulk := by
  unfold HasU at h; rw [Try.underlying35] at h
  obtain ⟨p1, r1, rfl, h1, p2, r2, rfl, h2, p3, r3, rfl, h3, p4, r4, rfl, h4, p5, r5, rfl, h5, p6, r6, rfl, h6, rfl⟩ := h
  obtain ⟨a, rfl, _⟩ := unU_int h1
  obtain ⟨b, rfl, _⟩ := unU_i64 h2
  obtain ⟨c, rfl, hc⟩ := unU_string h3
  obtain ⟨d, rfl, hd⟩ := unU_vals h4
  obtain ⟨e, rfl⟩ := unU_bool h5
  obtain ⟨al, rd, wt, rfl, hr, hw⟩ := unU_fp h6
  exact ⟨⟨a, b, c, d, e, al, rd, wt⟩, rfl, ⟨hd.len, hr.1, hw.1⟩⟩
theorem unU_reqs {n : Nat} {xs : List Atom} (h : HasU Try.prog (n + 5) 23 xs) : ∃ l : List Req, xs = [.slice 8 (l.map Req.row)] ∧ ReqsOk l ∧ l.length ≤ 1048576 := by
  unfold HasU at h; rw [Try.underlying23] at h
  obtain ⟨rows, rfl, hn, hr⟩ := h
  obtain ⟨l, rfl, hl⟩ := unU_rows fun r hrr => unU_req (hr r hrr)
  rw [List.length_map] at hn
  exact ⟨l, by rw [cells_req], ⟨by omega, hl⟩, hn⟩
theorem unU_requests {n : Nat} {xs : List Atom} (h : HasU Try.prog (n + 6) 49 xs) : ∃ p f : List Req, xs = [.slice 8 (p.map Req.row), .slice 8 (f.map Req.row)] ∧ (ReqsOk p ∧ ReqsOk f) ∧ p.length ≤ 1048576 ∧ f.length ≤ 1048576 := by
  unfold HasU at h; rw [Try.underlying49] at h
  obtain ⟨p1, r1, rfl, h1, p2, r2, rfl, h2, rfl⟩ := h
  obtain ⟨a, rfl, ha⟩ := unU_reqs h1
  obtain ⟨b, rfl, hb⟩ := unU_reqs h2
  exact ⟨a, b, rfl, ⟨ha.1, hb.1⟩, ha.2, hb.2⟩
theorem unU_outcome {n : Nat} {xs : List Atom} (h : HasU Try.prog (n + 4) 37 xs) : ∃ st cd : Int, ∃ out : List Vl, xs = [.int .i64 st, .int .i64 cd, .slice 3 (out.map Vl.row)] ∧ I64 st ∧ I64 cd ∧ Vls.full out := by
  unfold HasU at h; rw [Try.underlying37] at h
  obtain ⟨p1, r1, rfl, h1, p2, r2, rfl, h2, p3, r3, rfl, h3, rfl⟩ := h
  obtain ⟨a, rfl, ha⟩ := unU_int h1
  obtain ⟨b, rfl, hb⟩ := unU_int h2
  obtain ⟨c, rfl, hc⟩ := unU_vals h3
  exact ⟨a, b, c, rfl, ⟨(wf_in ha).1, (wf_in ha).2⟩, ⟨(wf_in hb).1, (wf_in hb).2⟩, hc⟩
theorem unU_rpl {n : Nat} {xs : List Atom} (h : HasU Try.prog (n + 5) 40 xs) : ∃ r : Rpl, xs = r.row ∧ r.full := by
  unfold HasU at h; rw [Try.underlying40] at h
  obtain ⟨p1, r1, rfl, h1, p2, r2, rfl, h2, p3, r3, rfl, h3, rfl⟩ := h
  obtain ⟨a, rfl, ha⟩ := unU_int h1
  obtain ⟨b, rfl, hb⟩ := unU_i64 h2
  obtain ⟨st, cd, out, rfl, h4, h5, h6⟩ := unU_outcome h3
  exact ⟨⟨a, b, st, cd, out⟩, rfl, ⟨⟨(wf_in ha).1, (wf_in ha).2⟩, ⟨(wf_in hb).1, (wf_in hb).2⟩, h4, h5, h6⟩⟩
theorem unU_ses {n : Nat} {xs : List Atom} (h : HasU Try.prog (n + 7) 66 xs) : ∃ s : Ses, xs = s.row ∧ s.full := by
  unfold HasU at h; rw [Try.underlying66] at h
  obtain ⟨p1, r1, rfl, h1, p2, r2, rfl, h2, p3, r3, rfl, h3, rfl⟩ := h
  obtain ⟨a, rfl, ha⟩ := unU_int h1
  obtain ⟨b, rfl, hb⟩ := unU_i64 h2
  change HasU Try.prog (n + 6) 25 p3 at h3
  unfold HasU at h3; rw [Try.underlying25] at h3
  obtain ⟨rows, rfl, hn, hr⟩ := h3
  obtain ⟨l, rfl, hl⟩ := unU_rows fun r hrr => unU_rpl (hr r hrr)
  rw [List.length_map] at hn
  exact ⟨⟨a, b, l⟩, by rw [cells_rpl]; rfl, ⟨⟨(wf_in ha).1, (wf_in ha).2⟩, ⟨(wf_in hb).1, (wf_in hb).2⟩, by simp only; omega, hl⟩⟩
theorem unU_sess {n : Nat} {x : Atom} (h : HasU Try.prog (n + 8) 22 [x]) : ∃ l : List Ses, x = .slice 3 (l.map Ses.row) ∧ Sess.full l := by
  unfold HasU at h; rw [Try.underlying22] at h
  obtain ⟨rows, he, hn, hr⟩ := h
  obtain ⟨l, rfl, hl⟩ := unU_rows fun r hrr => unU_ses (hr r hrr)
  rw [List.length_map] at hn
  cases he
  exact ⟨l, by rw [cells_ses], ⟨by omega, hl⟩⟩
end Go.Proofs.Ytbiongfnbbnndaa
