/- Chapter 37: arguments; what Filter returns comes from what came in. -/
import Derived.Test.YtbiongfnbbnndaaQg
import Derived.Test.YtbiongfnbbnndaaAbO
set_option linter.unusedSimpArgs false
set_option linter.unusedVariables false
namespace Go.Proofs.Ytbiongfnbbnndaa
open Go Ab Go.RowKit
set_option maxRecDepth 100000
attribute [local irreducible] awp aops aop asoft aeff aloop acall acallI acallT
attribute [local go_sem] Vl.row sRow

theorem un_string {n : Nat} {xs : List Atom} (h : Has Try.prog (n + 1) 9 xs) : ∃ s : ByteArray, xs = [.str s] ∧ s.size ≤ reachBytes := by
  unfold Has at h; rw [Try.underlying9] at h; exact h
theorem un_string1 {n : Nat} {x : Atom} (h : Has Try.prog (n + 1) 9 [x]) : ∃ s : ByteArray, x = .str s := by
  obtain ⟨s, e, _⟩ := un_string h
  cases e
  exact ⟨s, rfl⟩
theorem un_bool {n : Nat} {xs : List Atom} (h : Has Try.prog (n + 1) 4 xs) : ∃ b, xs = [.bool b] := by
  unfold Has at h; rw [Try.underlying4] at h; exact h
theorem un_i64 {n : Nat} {xs : List Atom} (h : Has Try.prog (n + 1) 2 xs) : ∃ m, xs = [.int .i64 m] ∧ (Lit.int IntKind.i64 m).wf = true := by
  unfold Has at h; rw [Try.underlying2] at h; exact h
theorem un_int {n : Nat} {xs : List Atom} (h : Has Try.prog (n + 1) 3 xs) : ∃ m, xs = [.int .i64 m] ∧ (Lit.int IntKind.i64 m).wf = true := by
  unfold Has at h; rw [Try.underlying3] at h; exact h
theorem wf_in {m : Int} (h : (Lit.int IntKind.i64 m).wf = true) : -9223372036854775808 ≤ m ∧ m ≤ 9223372036854775807 := by
  simp only [Lit.wf, Bool.and_eq_true, decide_eq_true_eq] at h
  have ma : IntKind.max .i64 = 9223372036854775807 := by decide
  have mi : IntKind.min .i64 = -9223372036854775808 := by decide
  rw [ma, mi] at h
  omega
theorem un_rows {α : Type} {f : α → List Atom} {Q : α → Prop} : ∀ {rows : List (List Atom)}, (∀ r ∈ rows, ∃ a, r = f a ∧ Q a) → ∃ l : List α, rows = l.map f ∧ ∀ a ∈ l, Q a
  | [], _ => ⟨[], rfl, fun a h => by cases h⟩
  | r :: rows, h => by
    obtain ⟨a, rfl, ha⟩ := h r (by simp)
    obtain ⟨l, rfl, hl⟩ := un_rows (rows := rows) fun r hr => h r (by simp [hr])
    exact ⟨a :: l, rfl, fun b hb => by
      rcases List.mem_cons.1 hb with rfl | hb
      · exact ha
      · exact hl b hb⟩
theorem cells_val : Try.prog.cellsOf 96 = 3 := by kernel_rfl
theorem bytes_val : Try.prog.bytesOf 96 = 32 := by kernel_rfl
theorem cells_str : Try.prog.cellsOf 9 = 1 := by kernel_rfl
theorem bytes_str : Try.prog.bytesOf 9 = 16 := by kernel_rfl
theorem cells_req : Try.prog.cellsOf 35 = 8 := by kernel_rfl
theorem bytes_req : Try.prog.bytesOf 35 = 120 := by kernel_rfl
theorem cells_rpl : Try.prog.cellsOf 40 = 5 := by kernel_rfl
theorem bytes_rpl : Try.prog.bytesOf 40 = 56 := by kernel_rfl
theorem cells_ses : Try.prog.cellsOf 66 = 3 := by kernel_rfl
theorem bytes_ses : Try.prog.bytesOf 66 = 40 := by kernel_rfl
structure I64 (m : Int) : Prop where
  lo : -9223372036854775808 ≤ m
  hi : m ≤ 9223372036854775807
structure Vl.full (v : Vl) : Prop where
  sz : v.s.size ≤ 9223372036854775807
  k : I64 v.kind
  n : I64 v.n
structure Vls.full (l : List Vl) : Prop where
  len : l.length * 32 ≤ 140737488351232
  all : ∀ v ∈ l, v.full
theorem un_value {n : Nat} {xs : List Atom} (h : Has Try.prog (n + 2) 96 xs) : ∃ v : Vl, xs = v.row ∧ v.full := by
  unfold Has at h; rw [Try.underlying96] at h
  obtain ⟨p1, r1, rfl, h1, p2, r2, rfl, h2, p3, r3, rfl, h3, rfl⟩ := h
  obtain ⟨a, rfl, ha⟩ := un_int h1
  obtain ⟨b, rfl, hb⟩ := un_i64 h2
  obtain ⟨c, rfl, hc⟩ := un_string h3
  exact ⟨⟨a, b, c⟩, rfl, ⟨by unfold reachBytes at hc; simp only; omega, ⟨(wf_in ha).1, (wf_in ha).2⟩, ⟨(wf_in hb).1, (wf_in hb).2⟩⟩⟩
theorem un_vals {n : Nat} {xs : List Atom} (h : Has Try.prog (n + 3) 30 xs) : ∃ l : List Vl, xs = [.slice 3 (l.map Vl.row)] ∧ Vls.full l := by
  unfold Has at h; rw [Try.underlying30] at h
  obtain ⟨rows, rfl, hn, hb, hr⟩ := h
  obtain ⟨l, rfl, hl⟩ := un_rows fun r hrr => un_value (hr r hrr)
  rw [List.length_map] at hn hb
  rw [bytes_val] at hb
  unfold reachBytes at hb
  exact ⟨l, by rw [cells_val], ⟨by omega, hl⟩⟩
theorem un_strs {n : Nat} {xs : List Atom} (h : Has Try.prog (n + 2) 31 xs) : ∃ l : List ByteArray, xs = [.slice 1 (l.map sRow)] ∧ l.length * 16 ≤ 140737488351232 ∧ ∀ s ∈ l, s.size ≤ 9223372036854775807 := by
  unfold Has at h; rw [Try.underlying31] at h
  obtain ⟨rows, rfl, hn, hb, hr⟩ := h
  obtain ⟨l, rfl, hl⟩ := un_rows (f := sRow) (Q := fun s => s.size ≤ 9223372036854775807) fun r hrr => by
    obtain ⟨s, e, hs⟩ := un_string (hr r hrr)
    exact ⟨s, e, by unfold reachBytes at hs; omega⟩
  rw [List.length_map] at hn hb
  rw [bytes_str] at hb
  unfold reachBytes at hb
  exact ⟨l, by rw [cells_str], by omega, hl⟩
theorem un_fp {n : Nat} {xs : List Atom} (h : Has Try.prog (n + 3) 33 xs) : ∃ al rd wt, xs = fpRow al rd wt ∧ (rd.length * 16 ≤ 140737488351232 ∧ ∀ s ∈ rd, s.size ≤ 9223372036854775807) ∧ (wt.length * 16 ≤ 140737488351232 ∧ ∀ s ∈ wt, s.size ≤ 9223372036854775807) := by
  unfold Has at h; rw [Try.underlying33] at h
  obtain ⟨p1, r1, rfl, h1, p2, r2, rfl, h2, p3, r3, rfl, h3, rfl⟩ := h
  obtain ⟨a, rfl⟩ := un_bool h1
  obtain ⟨b, rfl, hb⟩ := un_strs h2
  obtain ⟨c, rfl, hc⟩ := un_strs h3
  exact ⟨a, b, c, rfl, hb, hc⟩
theorem un_req {n : Nat} {xs : List Atom} (h : Has Try.prog (n + 4) 35 xs) : ∃ r : Req, xs = r.row ∧ r.bulk := by
  unfold Has at h; rw [Try.underlying35] at h
  obtain ⟨p1, r1, rfl, h1, p2, r2, rfl, h2, p3, r3, rfl, h3, p4, r4, rfl, h4, p5, r5, rfl, h5, p6, r6, rfl, h6, rfl⟩ := h
  obtain ⟨a, rfl, _⟩ := un_int h1
  obtain ⟨b, rfl, _⟩ := un_i64 h2
  obtain ⟨c, rfl, hc⟩ := un_string h3
  obtain ⟨d, rfl, hd⟩ := un_vals h4
  obtain ⟨e, rfl⟩ := un_bool h5
  obtain ⟨al, rd, wt, rfl, hr, hw⟩ := un_fp h6
  exact ⟨⟨a, b, c, d, e, al, rd, wt⟩, rfl, ⟨hd.len, hr.1, hw.1⟩⟩
theorem un_reqs {n : Nat} {xs : List Atom} (h : Has Try.prog (n + 5) 23 xs) : ∃ l : List Req, xs = [.slice 8 (l.map Req.row)] ∧ ReqsOk l := by
  unfold Has at h; rw [Try.underlying23] at h
  obtain ⟨rows, rfl, hn, hb, hr⟩ := h
  obtain ⟨l, rfl, hl⟩ := un_rows fun r hrr => un_req (hr r hrr)
  rw [List.length_map] at hn hb
  rw [bytes_req] at hb
  unfold reachBytes at hb
  exact ⟨l, by rw [cells_req], ⟨by omega, hl⟩⟩
theorem un_requests {n : Nat} {xs : List Atom} (h : Has Try.prog (n + 6) 49 xs) : ∃ p f : List Req, xs = [.slice 8 (p.map Req.row), .slice 8 (f.map Req.row)] ∧ ReqsOk p ∧ ReqsOk f := by
  unfold Has at h; rw [Try.underlying49] at h
  obtain ⟨p1, r1, rfl, h1, p2, r2, rfl, h2, rfl⟩ := h
  obtain ⟨a, rfl, ha⟩ := un_reqs h1
  obtain ⟨b, rfl, hb⟩ := un_reqs h2
  exact ⟨a, b, rfl, ha, hb⟩
theorem un_outcome {n : Nat} {xs : List Atom} (h : Has Try.prog (n + 4) 37 xs) : ∃ st cd : Int, ∃ out : List Vl, xs = [.int .i64 st, .int .i64 cd, .slice 3 (out.map Vl.row)] ∧ I64 st ∧ I64 cd ∧ Vls.full out := by
  unfold Has at h; rw [Try.underlying37] at h
  obtain ⟨p1, r1, rfl, h1, p2, r2, rfl, h2, p3, r3, rfl, h3, rfl⟩ := h
  obtain ⟨a, rfl, ha⟩ := un_int h1
  obtain ⟨b, rfl, hb⟩ := un_int h2
  obtain ⟨c, rfl, hc⟩ := un_vals h3
  exact ⟨a, b, c, rfl, ⟨(wf_in ha).1, (wf_in ha).2⟩, ⟨(wf_in hb).1, (wf_in hb).2⟩, hc⟩
structure Rpl.full (r : Rpl) : Prop where
  cl : I64 r.cl
  sq : I64 r.sq
  st : I64 r.st
  cd : I64 r.cd
  out : Vls.full r.out
theorem un_rpl {n : Nat} {xs : List Atom} (h : Has Try.prog (n + 5) 40 xs) : ∃ r : Rpl, xs = r.row ∧ r.full := by
  unfold Has at h; rw [Try.underlying40] at h
  obtain ⟨p1, r1, rfl, h1, p2, r2, rfl, h2, p3, r3, rfl, h3, rfl⟩ := h
  obtain ⟨a, rfl, ha⟩ := un_int h1
  obtain ⟨b, rfl, hb⟩ := un_i64 h2
  obtain ⟨st, cd, out, rfl, h4, h5, h6⟩ := un_outcome h3
  exact ⟨⟨a, b, st, cd, out⟩, rfl, ⟨⟨(wf_in ha).1, (wf_in ha).2⟩, ⟨(wf_in hb).1, (wf_in hb).2⟩, h4, h5, h6⟩⟩
structure Ses.full (s : Ses) : Prop where
  cl : I64 s.cl
  nx : I64 s.nx
  len : s.rs.length * 56 ≤ 140737488351232
  all : ∀ r ∈ s.rs, r.full
theorem un_ses {n : Nat} {xs : List Atom} (h : Has Try.prog (n + 7) 66 xs) : ∃ s : Ses, xs = s.row ∧ s.full := by
  unfold Has at h; rw [Try.underlying66] at h
  obtain ⟨p1, r1, rfl, h1, p2, r2, rfl, h2, p3, r3, rfl, h3, rfl⟩ := h
  obtain ⟨a, rfl, ha⟩ := un_int h1
  obtain ⟨b, rfl, hb⟩ := un_i64 h2
  change Has Try.prog (n + 6) 25 p3 at h3
  unfold Has at h3; rw [Try.underlying25] at h3
  obtain ⟨rows, rfl, hn, hb2, hr⟩ := h3
  obtain ⟨l, rfl, hl⟩ := un_rows fun r hrr => un_rpl (hr r hrr)
  rw [List.length_map] at hn hb2
  rw [bytes_rpl] at hb2
  unfold reachBytes at hb2
  exact ⟨⟨a, b, l⟩, by rw [cells_rpl]; rfl, ⟨⟨(wf_in ha).1, (wf_in ha).2⟩, ⟨(wf_in hb).1, (wf_in hb).2⟩, by simp only; omega, hl⟩⟩
structure Sess.full (l : List Ses) : Prop where
  len : l.length * 40 ≤ 140737488351232
  all : ∀ s ∈ l, s.full
theorem un_sess {n : Nat} {x : Atom} (h : Has Try.prog (n + 8) 22 [x]) : ∃ l : List Ses, x = .slice 3 (l.map Ses.row) ∧ Sess.full l := by
  unfold Has at h; rw [Try.underlying22] at h
  obtain ⟨rows, he, hn, hb, hr⟩ := h
  obtain ⟨l, rfl, hl⟩ := un_rows fun r hrr => un_ses (hr r hrr)
  rw [List.length_map] at hn hb
  rw [bytes_ses] at hb
  unfold reachBytes at hb
  cases he
  exact ⟨l, by rw [cells_ses], ⟨by omega, hl⟩⟩
theorem Vls.full.fit {l : List Vl} (h : Vls.full l) : VlsFit l := ⟨by have := h.len; omega, fun v hv => (h.all v hv).sz⟩
theorem Ses.full.fit {s : Ses} (h : s.full) : s.fit := ⟨by have := h.len; omega, fun r hr => (h.all r hr).out.fit⟩
theorem Sess.full.fit {l : List Ses} (h : Sess.full l) : SesFit l := ⟨by have := h.len; omega, fun s hs => (h.all s hs).fit⟩
theorem Sess.full.bulk {l : List Ses} (h : Sess.full l) : SesBulk l := ⟨h.fit, fun s hs r hr => ((h.all s hs).all r hr).out.len⟩

theorem Req.bulk.fits {r : Req} (h : r.bulk) : r.fits := ⟨by have := h.args; omega, by have := h.rd; omega, by have := h.wt; omega⟩

/-! What Filter returns -/
theorem rpOf_mem {l : List Rpl} {q : Int} {r : Rpl} (h : rpOf l q = some r) : r ∈ l ∧ r.sq = q := by
  unfold rpOf at h
  exact ⟨List.mem_of_find?_eq_some h, by simpa using List.find?_some h⟩
theorem look_mem {l : List Ses} {c q : Int} (h : (lookP l c q).2 = 0) : ∃ s ∈ l, (lookP l c q).1 ∈ s.rs := by
  unfold lookP at h ⊢
  split at h
  · simp at h
  · rename_i h1
    rw [if_neg h1]
    split at h
    · simp at h
    · rename_i h2
      rw [if_neg h2]
      split at h
      · simp at h
      · rename_i r hr
        have hm := (rpOf_mem hr).1
        unfold fndC at hm
        split at hm
        · simp at hm
        · rename_i s hs
          exact ⟨s, (sOf_mem hs).1, hm⟩
structure FMem (l : List Ses) (fresh : List Req) (x : Flt) : Prop where
  a : ∀ r ∈ x.a, r ∈ fresh
  b : ∀ r ∈ x.b, ∃ s ∈ l, r ∈ s.rs
  g : ∀ r ∈ x.g, r ∈ fresh
theorem fstep_mem {l : List Ses} {pend fresh : List Req} {x : Flt} {r : Req} (h : FMem l fresh x) (hr : r ∈ fresh) : FMem l fresh (fstep l pend x r) := by
  unfold fstep
  split
  · refine ⟨fun y hy => ?_, h.b, h.g⟩
    rcases List.mem_append.1 hy with hy | hy
    · exact h.a y hy
    · rw [List.mem_singleton.1 hy]; exact hr
  · split
    · split
      · rename_i he
        refine ⟨h.a, fun y hy => ?_, h.g⟩
        rcases List.mem_append.1 hy with hy | hy
        · exact h.b y hy
        · rw [List.mem_singleton.1 hy]; exact look_mem he
      · exact h
    · split
      · refine ⟨h.a, h.b, fun y hy => ?_⟩
        rcases List.mem_append.1 hy with hy | hy
        · exact h.g y hy
        · rw [List.mem_singleton.1 hy]; exact hr
      · exact h
theorem filtN_mem (l : List Ses) (pend fresh : List Req) : ∀ k, k ≤ fresh.length → FMem l fresh (filtN l pend fresh k)
  | 0, _ => by rw [filtN_zero]; exact ⟨fun r h => by simp at h, fun r h => by simp at h, fun r h => by simp at h⟩
  | k + 1, h => by
    rw [filtN_step l pend fresh k (by omega)]
    exact fstep_mem (filtN_mem l pend fresh k (by omega)) (List.getElem_mem _)
end Go.Proofs.Ytbiongfnbbnndaa
