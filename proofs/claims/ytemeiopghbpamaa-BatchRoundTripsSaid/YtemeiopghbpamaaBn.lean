/- Chapter 36: arguments; few, short. -/
import Derived.Test.YtemeiopghbpamaaBm
import Derived.Test.YtemeiopghbpamaaAbO
set_option linter.unusedSimpArgs false
set_option linter.unusedVariables false
namespace Go.Proofs.Ytemeiopghbpamaa
open Go Ab Go.RowKit
set_option maxRecDepth 100000
attribute [local irreducible] awp aops aop asoft aeff aloop acall acallI acallT
attribute [local go_sem] Vl.row sRow

theorem un_string {n : Nat} {xs : List Atom} (h : Has Try.prog (n + 1) 9 xs) : ∃ s : ByteArray, xs = [.str s] ∧ s.size ≤ reachBytes := by
  unfold Has at h; rw [Try.underlying9] at h; exact h
theorem un_string1 {n : Nat} {x : Atom} (h : Has Try.prog (n + 1) 9 [x]) : ∃ s : ByteArray, x = .str s := by
  obtain ⟨s, e, _⟩ := un_string h
  cases e
  exact ⟨s, rfl⟩
theorem un_bool {n : Nat} {xs : List Atom} (h : Has Try.prog (n + 1) 4 xs) : ∃ b, xs = [.bool b] := by
  unfold Has at h; rw [Try.underlying4] at h; exact h
theorem un_i64 {n : Nat} {xs : List Atom} (h : Has Try.prog (n + 1) 2 xs) : ∃ m, xs = [.int .i64 m] ∧ (Lit.int IntKind.i64 m).wf = true := by
  unfold Has at h; rw [Try.underlying2] at h; exact h
theorem un_int {n : Nat} {xs : List Atom} (h : Has Try.prog (n + 1) 3 xs) : ∃ m, xs = [.int .i64 m] := by
  unfold Has at h; rw [Try.underlying3] at h; obtain ⟨m, h, _⟩ := h; exact ⟨m, h⟩
theorem wf_in {m : Int} (h : (Lit.int IntKind.i64 m).wf = true) : -Cw.M63 ≤ m ∧ m < Cw.M63 := by
  simp only [Lit.wf, Bool.and_eq_true, decide_eq_true_eq] at h
  have ma : IntKind.max .i64 = 9223372036854775807 := by decide
  have mi : IntKind.min .i64 = -9223372036854775808 := by decide
  rw [ma, mi] at h
  rw [Cw.m63]; omega
theorem un_value {n : Nat} {xs : List Atom} (h : Has Try.prog (n + 2) 47 xs) : ∃ v : Vl, xs = v.row ∧ v.s.size ≤ 9223372036854775807 ∧ -Cw.M63 ≤ v.n ∧ v.n < Cw.M63 := by
  unfold Has at h; rw [Try.underlying47] at h
  obtain ⟨p1, r1, rfl, h1, p2, r2, rfl, h2, p3, r3, rfl, h3, rfl⟩ := h
  obtain ⟨a, rfl⟩ := un_int h1
  obtain ⟨b, rfl, hb⟩ := un_i64 h2
  obtain ⟨c, rfl, hc⟩ := un_string h3
  exact ⟨⟨a, b, c⟩, rfl, by unfold reachBytes at hc; simp only; omega, wf_in hb⟩
theorem un_rows {α : Type} {f : α → List Atom} {Q : α → Prop} : ∀ {rows : List (List Atom)}, (∀ r ∈ rows, ∃ a, r = f a ∧ Q a) → ∃ l : List α, rows = l.map f ∧ ∀ a ∈ l, Q a
  | [], _ => ⟨[], rfl, fun a h => by cases h⟩
  | r :: rows, h => by
    obtain ⟨a, rfl, ha⟩ := h r (by simp)
    obtain ⟨l, rfl, hl⟩ := un_rows (rows := rows) fun r hr => h r (by simp [hr])
    exact ⟨a :: l, rfl, fun b hb => by
      rcases List.mem_cons.1 hb with rfl | hb
      · exact ha
      · exact hl b hb⟩
theorem cells_val : Try.prog.cellsOf 47 = 3 := by kernel_rfl
theorem bytes_val : Try.prog.bytesOf 47 = 32 := by kernel_rfl
theorem cells_str : Try.prog.cellsOf 9 = 1 := by kernel_rfl
theorem bytes_str : Try.prog.bytesOf 9 = 16 := by kernel_rfl
theorem cells_req : Try.prog.cellsOf 31 = 8 := by kernel_rfl
theorem bytes_req : Try.prog.bytesOf 31 = 120 := by kernel_rfl
theorem cells_reqs : Try.prog.cellsOf 25 = 1 := by kernel_rfl
theorem bytes_reqs : Try.prog.bytesOf 25 = 24 := by kernel_rfl
theorem un_vals {n : Nat} {xs : List Atom} (h : Has Try.prog (n + 3) 26 xs) : ∃ l : List Vl, xs = [.slice 3 (l.map Vl.row)] ∧ l.length * 32 ≤ 140737488351232 ∧ ∀ v ∈ l, v.s.size ≤ 9223372036854775807 ∧ -Cw.M63 ≤ v.n ∧ v.n < Cw.M63 := by
  unfold Has at h; rw [Try.underlying26] at h
  obtain ⟨rows, rfl, hn, hb, hr⟩ := h
  obtain ⟨l, rfl, hl⟩ := un_rows fun r hrr => un_value (hr r hrr)
  rw [List.length_map] at hn hb
  rw [bytes_val] at hb
  unfold reachBytes at hb
  exact ⟨l, by rw [cells_val], by omega, hl⟩
theorem un_strs {n : Nat} {xs : List Atom} (h : Has Try.prog (n + 2) 27 xs) : ∃ l : List ByteArray, xs = [.slice 1 (l.map sRow)] ∧ l.length * 16 ≤ 140737488351232 ∧ ∀ s ∈ l, s.size ≤ 9223372036854775807 := by
  unfold Has at h; rw [Try.underlying27] at h
  obtain ⟨rows, rfl, hn, hb, hr⟩ := h
  obtain ⟨l, rfl, hl⟩ := un_rows (f := sRow) (Q := fun s => s.size ≤ 9223372036854775807) fun r hrr => by
    obtain ⟨s, e, hs⟩ := un_string (hr r hrr)
    exact ⟨s, e, by unfold reachBytes at hs; omega⟩
  rw [List.length_map] at hn hb
  rw [bytes_str] at hb
  unfold reachBytes at hb
  exact ⟨l, by rw [cells_str], by omega, hl⟩
theorem un_fp {n : Nat} {xs : List Atom} (h : Has Try.prog (n + 3) 29 xs) : ∃ al rd wt, xs = fpRow al rd wt ∧ (rd.length * 16 ≤ 140737488351232 ∧ ∀ s ∈ rd, s.size ≤ 9223372036854775807) ∧ (wt.length * 16 ≤ 140737488351232 ∧ ∀ s ∈ wt, s.size ≤ 9223372036854775807) := by
  unfold Has at h; rw [Try.underlying29] at h
  obtain ⟨p1, r1, rfl, h1, p2, r2, rfl, h2, p3, r3, rfl, h3, rfl⟩ := h
  obtain ⟨a, rfl⟩ := un_bool h1
  obtain ⟨b, rfl, hb⟩ := un_strs h2
  obtain ⟨c, rfl, hc⟩ := un_strs h3
  exact ⟨a, b, c, rfl, hb, hc⟩
theorem un_req {n : Nat} {xs : List Atom} (h : Has Try.prog (n + 4) 31 xs) : ∃ r : Req, xs = r.row ∧ r.fit ∧ r.bulk := by
  unfold Has at h; rw [Try.underlying31] at h
  obtain ⟨p1, r1, rfl, h1, p2, r2, rfl, h2, p3, r3, rfl, h3, p4, r4, rfl, h4, p5, r5, rfl, h5, p6, r6, rfl, h6, rfl⟩ := h
  obtain ⟨a, rfl⟩ := un_int h1
  obtain ⟨b, rfl, _⟩ := un_i64 h2
  obtain ⟨c, rfl, hc⟩ := un_string h3
  obtain ⟨d, rfl, hd⟩ := un_vals h4
  obtain ⟨e, rfl⟩ := un_bool h5
  obtain ⟨al, rd, wt, rfl, hr, hw⟩ := un_fp h6
  unfold reachBytes at hc
  exact ⟨⟨a, b, c, d, e, al, rd, wt⟩, rfl, ⟨by simp only; omega, by have := hd.1; simp only; omega, fun v hv => (hd.2 v hv).1, ⟨by have := hr.1; simp only; omega, hr.2⟩, ⟨by have := hw.1; simp only; omega, hw.2⟩, fun v hv => (hd.2 v hv).2⟩, ⟨hd.1, hr.1, hw.1⟩⟩
structure Reqs.fit (l : List Req) : Prop where
  len : l.length * 120 ≤ 140737488351232
  all : ∀ r ∈ l, r.fit
  blk : ∀ r ∈ l, r.bulk
theorem un_reqs {n : Nat} {x : Atom} (h : Has Try.prog (n + 5) 25 [x]) : ∃ l : List Req, x = .slice 8 (l.map Req.row) ∧ Reqs.fit l := by
  unfold Has at h; rw [Try.underlying25] at h
  obtain ⟨rows, he, hn, hb, hr⟩ := h
  obtain ⟨l, rfl, hl⟩ := un_rows fun r hrr => un_req (hr r hrr)
  rw [List.length_map] at hn hb
  rw [bytes_req] at hb
  unfold reachBytes at hb
  cases he
  exact ⟨l, by rw [cells_req], ⟨by omega, fun r hr => (hl r hr).1, fun r hr => (hl r hr).2⟩⟩
theorem un_reqs' {n : Nat} {xs : List Atom} (h : Has Try.prog (n + 5) 25 xs) : ∃ l : List Req, xs = lsRow l ∧ Reqs.fit l := by
  have h0 := h
  unfold Has at h; rw [Try.underlying25] at h
  obtain ⟨rows, rfl, _⟩ := h
  obtain ⟨l, e, hl⟩ := un_reqs h0
  exact ⟨l, by rw [e]; rfl, hl⟩
theorem un_lists {n : Nat} {x : Atom} (h : Has Try.prog (n + 6) 22 [x]) : ∃ ls : List (List Req), x = .slice 1 (ls.map lsRow) ∧ ls.length * 24 ≤ 140737488351232 ∧ ∀ l ∈ ls, Reqs.fit l := by
  unfold Has at h; rw [Try.underlying22] at h
  obtain ⟨rows, he, hn, hb, hr⟩ := h
  obtain ⟨ls, rfl, hl⟩ := un_rows fun r hrr => un_reqs' (hr r hrr)
  rw [List.length_map] at hn hb
  rw [bytes_reqs] at hb
  unfold reachBytes at hb
  cases he
  exact ⟨ls, by rw [cells_reqs], by omega, hl⟩
def fewL (l : List Req) : Bool := decide (l.length ≤ 70) && l.all fewR
set_option maxRecDepth 100000 in
set_option maxHeartbeats 4000000 in
theorem few_den (l : List Req) : PDen Try.prog 9 [.a (.slice 8 (l.map Req.row))] (.a (.bool (fewL l))) := by
  by_cases c1 : l.length ≤ 70
  rotate_left
  · have q1 : (70 : Int) < (l.length : Int) := by omega
    refine den_of_body k_law36_few ⟨rfl, Nat.le_of_ble_eq_true rfl, thaw_intro ?_⟩
    unfold c_law36_few
    simp only [q1, go_sem]
    simp only [aresult, ares, go_sem]
    simp [fewL, c1]
  have q1 : ¬ (70 : Int) < (l.length : Int) := by omega
  have hG : fewL l = l.all fewR := by simp [fewL, c1]
  rw [hG]
  refine den_of_body k_law36_few ⟨rfl, Nat.le_of_ble_eq_true rfl, thaw_intro ?_⟩
  unfold c_law36_few
  simp only [q1, go_sem]
  refine t_loop_intro (fun k : Nat => k ≤ l.length ∧ (l.all fewR = (l.drop k).all fewR)) (fun k => l.length - k) 0 [2, 3, 7, 8, 9, 10, 11, 12, 13, 14, 15, 16, 17, 18] (fun k => [(3, .a (.int .i64 k))]) ⟨by omega, by rfl⟩ (by simp) (fun k => by simp) rfl ?_
  intro k hk0 fr_ hfr
  have hk : k ≤ l.length := hk0.1
  have hall := hk0.2
  clear hk0
  simp only [go_sem] at hfr
  subst hfr
  by_cases hlt : k < l.length
  · have h1 : (k : Int) < (l.length : Int) := by omega
    have e := getD_map Req.row l k hlt
    have er := rowr l[k]
    have hf := rfew_den l[k]
    rw [er] at e hf
    have ew := wrap1 k l.length hlt (by omega)
    have es := all_dstep fewR l k hlt
    simp only [h1, e, go_sem]
    refine t_call_intro (hf) ?_
    cases hq : fewR l[k] with
    | true =>
      simp only [ew, go_sem]
      refine t_round (k + 1) ⟨by omega, by rw [hall, es, hq]; rfl⟩ (by omega) (by simp) rfl rfl (by simp) rfl
    | false =>
      simp only [go_sem]
      simp only [aresult, ares, go_sem]
      rw [hall, es, hq]; rfl
  · have h1 : ¬ (k : Int) < (l.length : Int) := by omega
    simp only [h1, go_sem]
    simp only [aresult, ares, go_sem]
    rw [hall, List.drop_eq_nil_of_le (by omega)]; rfl
def len40 (l : List Req) : Bool := decide (l.length ≤ 40)
def shortL (ls : List (List Req)) : Bool := decide (ls.length ≤ 20) && ls.all len40
set_option maxRecDepth 100000 in
set_option maxHeartbeats 4000000 in
theorem short_den (ls : List (List Req)) : PDen Try.prog 5 [.a (.slice 1 (ls.map lsRow))] (.a (.bool (shortL ls))) := by
  by_cases c1 : ls.length ≤ 20
  rotate_left
  · have q1 : (20 : Int) < (ls.length : Int) := by omega
    refine den_of_body k_law36_short ⟨rfl, Nat.le_of_ble_eq_true rfl, thaw_intro ?_⟩
    unfold c_law36_short
    simp only [q1, go_sem]
    simp only [aresult, ares, go_sem]
    simp [shortL, c1]
  have q1 : ¬ (20 : Int) < (ls.length : Int) := by omega
  have hG : shortL ls = ls.all len40 := by simp [shortL, c1]
  rw [hG]
  refine den_of_body k_law36_short ⟨rfl, Nat.le_of_ble_eq_true rfl, thaw_intro ?_⟩
  unfold c_law36_short
  simp only [q1, go_sem]
  refine t_loop_intro (fun k : Nat => k ≤ ls.length ∧ (ls.all len40 = (ls.drop k).all len40)) (fun k => ls.length - k) 0 [2, 3, 7, 8, 9, 10, 11, 12, 13, 14, 15, 16, 17, 18] (fun k => [(3, .a (.int .i64 k))]) ⟨by omega, by rfl⟩ (by simp) (fun k => by simp) rfl ?_
  intro k hk0 fr_ hfr
  have hk : k ≤ ls.length := hk0.1
  have hall := hk0.2
  clear hk0
  simp only [go_sem] at hfr
  subst hfr
  by_cases hlt : k < ls.length
  · have h1 : (k : Int) < (ls.length : Int) := by omega
    have e := getD_ls ls k hlt
    have ew := wrap1 k ls.length hlt (by omega)
    have es := all_dstep len40 ls k hlt
    by_cases c2 : ls[k].length ≤ 40
    · have q2 : ¬ (40 : Int) < (ls[k].length : Int) := by omega
      simp only [h1, e, q2, ew, go_sem]
      refine t_round (k + 1) ⟨by omega, by rw [hall, es]; simp [len40, c2]⟩ (by omega) (by simp) rfl rfl (by simp) rfl
    · have q2 : (40 : Int) < (ls[k].length : Int) := by omega
      simp only [h1, e, q2, go_sem]
      simp only [aresult, ares, go_sem]
      rw [hall, es]; simp [len40, c2]
  · have h1 : ¬ (k : Int) < (ls.length : Int) := by omega
    simp only [h1, go_sem]
    simp only [aresult, ares, go_sem]
    rw [hall, List.drop_eq_nil_of_le (by omega)]; rfl
end Go.Proofs.Ytemeiopghbpamaa
