/- Chapter 53: arguments; laws. -/
import Derived.Test.YtknmjfojlnajjaaDl
set_option linter.unusedSimpArgs false
set_option linter.unusedVariables false
namespace Go.Proofs.Ytknmjfojlnajjaa
open Go Ab Go.RowKit
set_option maxRecDepth 100000
attribute [local irreducible] awp aops aop asoft aeff aloop acall acallI acallT
attribute [local go_sem] Vl.row Pr.row

theorem un_string {n : Nat} {xs : List Atom} (h : Has Try.prog (n + 1) 9 xs) : ∃ s : ByteArray, xs = [.str s] ∧ s.size ≤ reachBytes := by
  unfold Has at h; rw [Try.underlying9] at h; exact h
theorem un_i64 {n : Nat} {xs : List Atom} (h : Has Try.prog (n + 1) 2 xs) : ∃ m, xs = [.int .i64 m] ∧ (Lit.int IntKind.i64 m).wf = true := by
  unfold Has at h; rw [Try.underlying2] at h; exact h
theorem un_int {n : Nat} {xs : List Atom} (h : Has Try.prog (n + 1) 3 xs) : ∃ m, xs = [.int .i64 m] := by
  unfold Has at h; rw [Try.underlying3] at h; obtain ⟨m, h, _⟩ := h; exact ⟨m, h⟩
theorem wf_in {m : Int} (h : (Lit.int IntKind.i64 m).wf = true) : -Cw.M63 ≤ m ∧ m < Cw.M63 := by
  simp only [Lit.wf, Bool.and_eq_true, decide_eq_true_eq] at h
  have ma : IntKind.max .i64 = 9223372036854775807 := by decide
  have mi : IntKind.min .i64 = -9223372036854775808 := by decide
  rw [ma, mi] at h
  rw [Cw.m63]; omega
theorem un_value {n : Nat} {xs : List Atom} (h : Has Try.prog (n + 2) 34 xs) : ∃ v : Vl, xs = v.row ∧ v.s.size ≤ 9223372036854775807 ∧ -Cw.M63 ≤ v.n ∧ v.n < Cw.M63 := by
  unfold Has at h; rw [Try.underlying34] at h
  obtain ⟨p1, r1, rfl, h1, p2, r2, rfl, h2, p3, r3, rfl, h3, rfl⟩ := h
  obtain ⟨a, rfl⟩ := un_int h1
  obtain ⟨b, rfl, hb⟩ := un_i64 h2
  obtain ⟨c, rfl, hc⟩ := un_string h3
  exact ⟨⟨a, b, c⟩, rfl, by unfold reachBytes at hc; simp only; omega, wf_in hb⟩
theorem un_rows {α : Type} {f : α → List Atom} {Q : α → Prop} : ∀ {rows : List (List Atom)}, (∀ r ∈ rows, ∃ a, r = f a ∧ Q a) → ∃ l : List α, rows = l.map f ∧ ∀ a ∈ l, Q a
  | [], _ => ⟨[], rfl, fun a h => by cases h⟩
  | r :: rows, h => by
    obtain ⟨a, rfl, ha⟩ := h r (by simp)
    obtain ⟨l, rfl, hl⟩ := un_rows (rows := rows) fun r hr => h r (by simp [hr])
    exact ⟨a :: l, rfl, fun b hb => by
      rcases List.mem_cons.1 hb with rfl | hb
      · exact ha
      · exact hl b hb⟩
theorem un_u64 {n : Nat} {xs : List Atom} (h : Has Try.prog (n + 1) 24 xs) : ∃ m : Nat, xs = [.int .u64 (m : Int)] ∧ m < 18446744073709551616 := by
  unfold Has at h; rw [Try.underlying24] at h; obtain ⟨m, e, h⟩ := h
  simp only [Lit.wf, Bool.and_eq_true, decide_eq_true_eq] at h
  have ma : IntKind.max .u64 = 18446744073709551615 := by decide
  have mi : IntKind.min .u64 = 0 := by decide
  rw [ma, mi] at h
  obtain ⟨k, rfl⟩ := Int.eq_ofNat_of_zero_le h.1
  exact ⟨k, e, by omega⟩
/-- A pair as it comes in. -/
structure Pr.arg (p : Pr) : Prop where
  ks : p.key.size ≤ 9223372036854775807
  vs : p.v.s.size ≤ 9223372036854775807
  lo : -Cw.M63 ≤ p.v.n
  hi : p.v.n < Cw.M63
theorem un_pair {n : Nat} {xs : List Atom} (h : Has Try.prog (n + 3) 36 xs) : ∃ p : Pr, xs = p.row ∧ p.arg := by
  unfold Has at h; rw [Try.underlying36] at h
  obtain ⟨p1, r1, rfl, h1, p2, r2, rfl, h2, rfl⟩ := h
  obtain ⟨k, rfl, hk⟩ := un_string h1
  obtain ⟨v, rfl, hv⟩ := un_value h2
  exact ⟨⟨k, v⟩, rfl, ⟨by unfold reachBytes at hk; simp only; omega, hv.1, hv.2.1, hv.2.2⟩⟩
theorem cells_pr : Try.prog.cellsOf 36 = 4 := by kernel_rfl
theorem bytes_pr : Try.prog.bytesOf 36 = 48 := by kernel_rfl
theorem cells_u64 : Try.prog.cellsOf 24 = 1 := by kernel_rfl
theorem bytes_u64 : Try.prog.bytesOf 24 = 8 := by kernel_rfl
structure Prs.arg (l : List Pr) : Prop where
  len : l.length ≤ 9223372036854775807
  all : ∀ p ∈ l, p.arg
theorem un_prs {n : Nat} {x : Atom} (h : Has Try.prog (n + 4) 22 [x]) : ∃ l : List Pr, x = .slice 4 (l.map Pr.row) ∧ Prs.arg l := by
  unfold Has at h; rw [Try.underlying22] at h
  obtain ⟨rows, e, hn, hb, hr⟩ := h
  obtain ⟨l, rfl, hl⟩ := un_rows fun r hrr => un_pair (hr r hrr)
  rw [List.length_map] at hn
  rw [cells_pr] at e
  cases e
  exact ⟨l, rfl, ⟨by omega, hl⟩⟩
structure Tr.arg (t : Tr) : Prop where
  len : t.bs.length ≤ 9223372036854775807
  fit : t.fit
theorem un_tree {n : Nat} {xs : List Atom} (h : Has Try.prog (n + 3) 26 xs) : ∃ t : Tr, xs = t.row ∧ t.arg := by
  unfold Has at h; rw [Try.underlying26] at h
  obtain ⟨p1, r1, rfl, h1, p2, r2, rfl, h2, rfl⟩ := h
  obtain ⟨r, rfl, hr⟩ := un_u64 h2
  change Has Try.prog (n + 2) 23 p1 at h1
  unfold Has at h1; rw [Try.underlying23] at h1
  obtain ⟨rows, rfl, hn, hb, hrr⟩ := h1
  obtain ⟨l, rfl, hl⟩ := un_rows (f := u64R) (Q := fun x => x < 18446744073709551616) fun r hq => un_u64 (hrr r hq)
  rw [List.length_map] at hn
  exact ⟨⟨l, r⟩, by rw [cells_u64]; rfl, ⟨by simp only; omega, ⟨hl, hr⟩⟩⟩
theorem few_of {l : List Pr} {n : Nat} (h : fewL l n = true) (ha : ∀ p ∈ l, p.arg) : l.length ≤ n ∧ ∀ p ∈ l, p.few := by
  unfold fewL at h
  rw [Bool.and_eq_true] at h
  refine ⟨of_decide_eq_true h.1, fun p hp => ?_⟩
  have hq := List.all_eq_true.1 h.2 p hp
  unfold fewP at hq
  rw [Bool.and_eq_true] at hq
  have q1 := of_decide_eq_true hq.1
  have q2 := of_decide_eq_true hq.2
  exact ⟨by omega, by omega, (ha p hp).lo, (ha p hp).hi⟩
set_option maxHeartbeats 2000000 in
theorem DigestTrees_den (l : List Pr) (hl : Prs.arg l) (t : Tr) (ht : t.arg) : PDen Try.prog 3 [.a (.slice 4 (l.map Pr.row)), .agg t.row] (.a (.bool true)) := by
  have hw := few_den l 12 hl.len
  change PDen _ _ [_, .a (.int .i64 12)] _ at hw
  rw [tr_row]
  refine den_of_body k_law53_DigestTrees ⟨rfl, Nat.le_of_ble_eq_true rfl, thaw_intro ?_⟩
  unfold c_law53_DigestTrees
  simp only [go_sem]
  refine t_call_intro (hw) ?_
  cases hf : fewL l 12 with
  | false =>
    simp only [go_sem]
    refine t_call_intro (lives_den) ?_
    simp only [go_sem]
    simp only [aresult, ares, go_sem]
  | true =>
    obtain ⟨f1, f2⟩ := few_of hf hl.all
    by_cases h1 : t.bs.length ≤ 100
    rotate_left
    · have q : (100 : Int) < (t.bs.length : Int) := by omega
      simp only [q, go_sem]
      refine t_call_intro (lives_den) ?_
      simp only [go_sem]
      simp only [aresult, ares, go_sem]
    have q : ¬ (100 : Int) < (t.bs.length : Int) := by omega
    have d1 := tree_den l (by omega) f2
    have d2 := rtree_den l (by omega) f2
    have d3 := rsameT_den (treeT l) (treeT l) (by rw [treeT_len]; decide) (by rw [treeT_len]; decide)
    rw [sameT_refl] at d3
    have d4 := root_den t (by omega)
    have d5 := rroot_den t (by omega) ht.fit
    rw [tr_row] at d4 d5
    rw [tr_row (treeT l)] at d1 d2 d3
    simp only [q, go_sem]
    refine t_call_intro (d1) ?_
    simp only [go_sem]
    refine t_call_intro (d2) ?_
    simp only [go_sem]
    refine t_call_intro (d3) ?_
    simp only [go_sem]
    refine t_call_intro (d4) ?_
    simp only [go_sem]
    refine t_call_intro (d5) ?_
    simp only [beq_self_eq_true, go_sem]
    refine t_call_intro (lives_den) ?_
    simp only [go_sem]
    simp only [aresult, ares, go_sem]
end Go.Proofs.Ytknmjfojlnajjaa
