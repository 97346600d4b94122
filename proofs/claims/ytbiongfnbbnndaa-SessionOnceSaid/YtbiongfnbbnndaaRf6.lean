/- Chapter 37: Record of both; the law SessionRecords. -/
import Derived.Test.YtbiongfnbbnndaaRe6
set_option linter.unusedSimpArgs false
set_option linter.unusedVariables false
namespace Go.Proofs.Ytbiongfnbbnndaa
open Go Ab Go.RowKit
set_option maxRecDepth 100000
attribute [local irreducible] awp aops aop asoft aeff aloop acall acallI acallT
attribute [local go_sem] Vl.row sRow fpRow Req.row Rpl.row Ses.row

theorem recP_cases (l : List Ses) (r : Rpl) : ((recP l r).2 ≠ 0 ∧ recP l r = ([], (recP l r).2)) ∨ (RecIn l r ∧ recP l r = (recL l r, 0)) := by
  unfold recP
  by_cases h1 : (sessV l && recOk r) = true
  · rw [if_pos h1]
    by_cases h2 : r.sq = nextI l r.cl
    · rw [if_neg (by simp [h2])]
      by_cases h3 : r.sq = 1099511627776
      · rw [if_pos h3]; exact .inl ⟨by decide, rfl⟩
      · rw [if_neg h3]
        unfold recOk at h1
        simp only [Bool.and_eq_true, decide_eq_true_eq] at h1
        exact .inr ⟨⟨h1.1, by omega, by omega, h1.2.2, h2, h3⟩, rfl⟩
    · rw [if_pos h2]; exact .inl ⟨by decide, rfl⟩
  · rw [if_neg h1]; exact .inl ⟨by decide, rfl⟩
theorem record_den (l : List Ses) (hb : SesBulk l) (r : Rpl) (hr : VlsFit r.out) :
    PDen Try.prog 13 [.a (.slice 3 (l.map Ses.row)), .agg r.row] (.tup [.a (.slice 3 ((recP l r).1.map Ses.row)), .a (.int .i64 (recP l r).2)]) := by
  rcases recP_cases l r with ⟨h1, h2⟩ | ⟨h1, h2⟩
  · have := record_bad l hb r hr _ h1 h2
    have e1 : (recP l r).1 = [] := congrArg Prod.fst h2
    rw [e1]
    exact this.le (rec_le _)
  · rw [h2]
    cases hf : foundC l (loC r.cl l) r.cl with
    | false => exact record_new l hb r hr h1 hf
    | true => exact record_old l hb r hr h1 hf
theorem rrecord_den (l : List Ses) (hb : SesBulk l) (r : Rpl) (hr : VlsFit r.out) :
    PDen Try.prog 21 [.a (.slice 3 (l.map Ses.row)), .agg r.row] (.tup [.a (.slice 3 ((recP l r).1.map Ses.row)), .a (.int .i64 (recP l r).2)]) := by
  rcases recP_cases l r with ⟨h1, h2⟩ | ⟨h1, h2⟩
  · have := rrecord_bad l hb r hr _ h1 h2
    have e1 : (recP l r).1 = [] := congrArg Prod.fst h2
    rw [e1]
    exact this.le (rec_le _)
  · rw [h2]
    exact rrecord_ok l hb r hr h1
/-! What is in the result -/
theorem recL_mem {l : List Ses} {r : Rpl} (ha : AscC l) {s : Ses} (h : s ∈ recL l r) : s ∈ l ∨ s = newS l r := by
  rw [recL_eq l r ha] at h
  simp only [List.mem_append, List.mem_singleton] at h
  rcases h with (h | h) | h
  · exact .inl (List.mem_of_mem_take h)
  · exact .inr h
  · exact .inl (List.mem_filter.1 h).1
theorem newS_mem {l : List Ses} {r x : Rpl} (h : x ∈ (newS l r).rs) : x = r ∨ ∃ s ∈ l, x ∈ s.rs := by
  unfold newS last8 at h
  have h := List.mem_of_mem_drop h
  rcases List.mem_append.1 h with h | h
  · unfold fndC at h
    cases hs : sOf l r.cl with
    | none => rw [hs] at h; simp at h
    | some s => rw [hs] at h; exact .inr ⟨s, (sOf_mem hs).1, h⟩
  · exact .inl (List.mem_singleton.1 h)
theorem newS_len {l : List Ses} (r : Rpl) : (newS l r).rs.length ≤ 8 := by
  unfold newS last8
  simp only [List.length_drop]; omega
theorem recL_len {l : List Ses} (r : Rpl) (ha : AscC l) : (recL l r).length ≤ 2 * l.length + 1 := by
  rw [recL_eq l r ha]
  have h1 := List.length_filter_le (fun s : Ses => decide (r.cl < s.cl)) l
  simp only [List.length_append, List.length_take, List.length_cons, List.length_nil]; omega
/-- The shape of what Record returns. -/
theorem recP_bulk {l : List Ses} (hb : SesBulk l) {r : Rpl} (hr : VlsFit r.out) : SesBulk (recP l r).1 := by
  rcases recP_cases l r with ⟨h1, h2⟩ | ⟨h1, h2⟩
  · rw [h2]
    exact ⟨⟨Nat.zero_le _, fun s h => by cases h⟩, fun s h => by cases h⟩
  · rw [h2]
    have ha := (sessV_asc h1.v).1
    have hl := sess_len2 h1.v
    have hlr := recL_len r ha
    have ho := outV_len h1.o
    refine ⟨⟨by simp only; omega, fun s hs => ?_⟩, fun s hs x hx => ?_⟩
    · rcases recL_mem ha hs with hs | rfl
      · exact hb.fit.all s hs
      · refine ⟨by have := newS_len (l := l) r; omega, fun x hx => ?_⟩
        rcases newS_mem hx with rfl | ⟨s, hs, hx⟩
        · exact hr
        · exact (hb.fit.all s hs).all x hx
    · rcases recL_mem ha hs with hs | rfl
      · exact hb.all s hs x hx
      · rcases newS_mem hx with rfl | ⟨s, hs, hx⟩
        · omega
        · exact hb.all s hs x hx
theorem look_in (l : List Ses) (c q : Int) : (lookP l c q).1 = rpl0 ∨ ∃ s ∈ l, (lookP l c q).1 ∈ s.rs := by
  by_cases h : (lookP l c q).2 = 0
  · exact .inr (look_mem h)
  · refine .inl ?_
    unfold lookP at h ⊢
    split
    · rfl
    · rename_i h1
      rw [if_neg h1] at h
      split
      · rfl
      · rename_i h2
        rw [if_neg h2] at h
        cases hr : rpOf (fndC l c).rs q with
        | none => rfl
        | some r => rw [hr] at h; exact absurd rfl h
theorem look_fit {l : List Ses} (hb : SesBulk l) (c q : Int) : VlsFit (lookP l c q).1.out := by
  rcases look_in l c q with h | ⟨s, hs, h⟩
  · rw [h]; exact ⟨by decide, fun v h => by cases h⟩
  · exact (hb.fit.all s hs).all _ h
set_option maxHeartbeats 4000000 in
theorem SessionRecords_den (l : List Ses) (hl : Sess.full l) (r : Rpl) (hr : r.full) (q : Int) :
    PDen Try.prog 5 [.a (.slice 3 (l.map Ses.row)), .agg r.row, .a (.int .i64 q)] (.a (.bool true)) := by
  have d1 := record_den l hl.bulk r hr.out.fit
  have d2 := rrecord_den l hl.bulk r hr.out.fit
  have d3 := lookup_den l hl.bulk r.cl q
  have d4 := rlookup_den l hl.fit r.cl q
  have d5 := sessV_den l hl.fit
  have d6 := rsessV_den l hl.fit
  have d7 := sess_refl (recP l r).1 (recP_bulk hl.bulk hr.out.fit).fit
  have d8 := reply_refl (lookP l r.cl q).1 (look_fit hl.bulk r.cl q).len
  have n1 : ((recP l r).2 == (recP l r).2) = true := by simp
  have n2 : ((lookP l r.cl q).2 == (lookP l r.cl q).2) = true := by simp
  have n3 : (sessV l == sessV l) = true := by simp
  generalize recP l r = X at d1 d2 d7 n1
  generalize lookP l r.cl q = Y at d3 d4 d8 n2
  rw [rpl_rw r] at d1 d2 ⊢
  rw [rpl_rw Y.1] at d3 d4 d8
  refine den_of_body k_law37_SessionRecords ⟨rfl, Nat.le_of_ble_eq_true rfl, thaw_intro ?_⟩
  unfold c_law37_SessionRecords
  simp only [go_sem]
  refine t_call_intro (d1) ?_
  simp only [go_sem]
  refine t_call_intro (d2) ?_
  simp only [go_sem]
  refine t_call_intro (d3) ?_
  simp only [go_sem]
  refine t_call_intro (d4) ?_
  simp only [go_sem]
  refine t_call_intro (d5) ?_
  simp only [go_sem]
  refine t_call_intro (d6) ?_
  simp only [n3, go_sem]
  refine t_call_intro (d7) ?_
  simp only [n1, go_sem]
  refine t_call_intro (d8) ?_
  simp only [n2, go_sem]
  refine t_call_intro (examples_den) ?_
  simp only [go_sem]
  simp only [aresult, ares, go_sem]
end Go.Proofs.Ytbiongfnbbnndaa
