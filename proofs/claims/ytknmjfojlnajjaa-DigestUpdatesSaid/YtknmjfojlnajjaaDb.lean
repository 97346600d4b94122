/- Chapter 53: the laws DigestDiffs, DigestChanges, DigestPairs. -/
import Derived.Test.YtknmjfojlnajjaaDa
set_option linter.unusedSimpArgs false
set_option linter.unusedVariables false
namespace Go.Proofs.Ytknmjfojlnajjaa
open Go Ab Go.RowKit
set_option maxRecDepth 100000
attribute [local irreducible] awp aops aop asoft aeff aloop acall acallI acallT
attribute [local go_sem] Vl.row Pr.row

set_option maxHeartbeats 2000000 in
theorem DigestDiffs_den (a b : Tr) (ha : a.arg) (hb : b.arg) : PDen Try.prog 5 [.agg a.row, .agg b.row] (.a (.bool true)) := by
  rw [tr_row a, tr_row b]
  refine den_of_body k_law53_DigestDiffs ⟨rfl, Nat.le_of_ble_eq_true rfl, thaw_intro ?_⟩
  unfold c_law53_DigestDiffs
  simp only [go_sem]
  by_cases h1 : a.bs.length ≤ 100
  rotate_left
  · have q : (100 : Int) < (a.bs.length : Int) := by omega
    simp only [q, go_sem]
    refine t_call_intro (lives_den) ?_
    simp only [go_sem]
    simp only [aresult, ares, go_sem]
  have q1 : ¬ (100 : Int) < (a.bs.length : Int) := by omega
  by_cases h2 : b.bs.length ≤ 100
  rotate_left
  · have q : (100 : Int) < (b.bs.length : Int) := by omega
    simp only [q1, q, go_sem]
    refine t_call_intro (lives_den) ?_
    simp only [go_sem]
    simp only [aresult, ares, go_sem]
  have q2 : ¬ (100 : Int) < (b.bs.length : Int) := by omega
  have d1 := diff_den a b (by omega) (by omega)
  have d2 := rdiff_den a b (by omega) (by omega) ha.fit hb.fit
  rw [tr_row a, tr_row b] at d1 d2
  have hD : (diffT a b).length ≤ 64 := by
    unfold diffT
    split
    · exact diffB_len _ _ 64
    · exact Nat.zero_le _
  generalize diffT a b = D at d1 d2 hD
  have lD : (D.map iR).length = D.length := List.length_map ..
  have nn : ((D.length : Int) != (D.length : Int)) = false := by simp
  simp only [q1, q2, go_sem]
  refine t_call_intro (d1) ?_
  simp only [go_sem]
  refine t_call_intro (d2) ?_
  simp only [lD, nn, go_sem]
  refine t_loop_intro (fun k : Nat => k ≤ D.length) (fun k => D.length - k) 0 [4, 7, 30, 31, 32, 33, 34, 35, 36, 37, 38, 39, 40, 41, 42, 43, 44] (fun k => [(7, .a (.int .i64 k))]) (by omega) (by simp) (fun k => by simp) rfl ?_
  intro k hk fr_ hfr
  simp only [go_sem] at hfr
  subst hfr
  by_cases hlt : k < D.length
  · have h3 : (k : Int) < (D.length : Int) := by omega
    have e := getD_map iR D k hlt
    have er : iR D[k] = [.int .i64 (D[k] : Int)] := rfl
    have ew := wrap1 k D.length hlt (by omega)
    have n3 : ((D[k] : Int) != (D[k] : Int)) = false := by simp
    simp only [h3, lD, e, er, n3, ew, go_sem]
    refine t_round (k + 1) (by omega) (by omega) (by simp) rfl rfl (by simp) rfl
  · have h3 : ¬ (k : Int) < (D.length : Int) := by omega
    simp only [h3, lD, go_sem]
    refine t_call_intro (lives_den) ?_
    simp only [go_sem]
    simp only [aresult, ares, go_sem]
theorem updT_len (t : Tr) (o f : Pr) (h : t.bs.length ≤ 100) : (updT t o f).1.bs.length ≤ 1000000 := by
  unfold updT
  split
  · show (updB _ _ _ _).length ≤ _
    rw [updB_len]; omega
  · exact Nat.zero_le _
set_option maxHeartbeats 4000000 in
theorem DigestChanges_den (t : Tr) (o f : Pr) (ht : t.arg) (ho : o.arg) (hf : f.arg) : PDen Try.prog 4 [.agg t.row, .agg o.row, .agg f.row] (.a (.bool true)) := by
  have hw := few_den [o, f] 2 (by show 2 ≤ 9223372036854775807; decide)
  change PDen _ _ [.a (.slice 4 [o.row, f.row]), .a (.int .i64 2)] _ at hw
  rw [pr_row, pr_row] at hw
  rw [tr_row]
  refine den_of_body k_law53_DigestChanges ⟨rfl, Nat.le_of_ble_eq_true rfl, thaw_intro ?_⟩
  unfold c_law53_DigestChanges
  simp only [go_sem]
  by_cases h1 : t.bs.length ≤ 100
  rotate_left
  · have q : (100 : Int) < (t.bs.length : Int) := by omega
    simp only [q, go_sem]
    refine t_call_intro (lives_den) ?_
    simp only [go_sem]
    simp only [aresult, ares, go_sem]
  have q1 : ¬ (100 : Int) < (t.bs.length : Int) := by omega
  simp only [q1, go_sem]
  refine t_call_intro (hw) ?_
  cases hq : fewL [o, f] 2 with
  | false =>
    simp only [go_sem]
    refine t_call_intro (lives_den) ?_
    simp only [go_sem]
    simp only [aresult, ares, go_sem]
  | true =>
    obtain ⟨_, f2⟩ := few_of hq (fun p hp => by
      rcases List.mem_cons.1 hp with rfl | hp
      · exact ho
      · rw [List.mem_singleton.1 hp]; exact hf)
    have fo := f2 o (by simp)
    have ff := f2 f (by simp)
    have d1 := upd_den t o f (by omega) ht.fit fo ff
    have d2 := rupd_den t o f (by omega) ht.fit fo ff
    have hl := updT_len t o f h1
    unfold trA at d1 d2
    generalize updT t o f = U at d1 d2 hl
    obtain ⟨u, e⟩ := U
    have d3 := rsameT_den u u hl hl
    rw [sameT_refl] at d3
    simp only [] at d1 d2
    rw [tr_row t, tr_row u, pr_row, pr_row] at d1 d2
    rw [tr_row u] at d3
    simp only [go_sem]
    refine t_call_intro (d1) ?_
    simp only [go_sem]
    refine t_call_intro (d2) ?_
    simp only [go_sem]
    refine t_call_intro (d3) ?_
    simp only [beq_self_eq_true, go_sem]
    refine t_call_intro (lives_den) ?_
    simp only [go_sem]
    simp only [aresult, ares, go_sem]
set_option maxRecDepth 100000 in
set_option maxHeartbeats 1000000 in
theorem rsame06_den (l m : List Pr) (hl : l.length ≤ 9223372036854775807) :
    PDen Try.prog 24 [.a (.slice 4 (l.map Pr.row)), .a (.slice 4 (m.map Pr.row))] (.a (.bool (prsEq l m))) := by
  refine den_of_body k_ref06_Same ⟨rfl, Nat.le_of_ble_eq_true rfl, thaw_intro ?_⟩
  unfold c_ref06_Same
  simp only [go_sem]
  first | refine t_case_dec (fun h0 => ?_) (fun h0 => ?_) | refine t_case_ndec (fun h0 => ?_) (fun h0 => ?_) | refine t_case_eqI (fun h0 => ?_) (fun h0 => ?_) | refine t_case_neI (fun h0 => ?_) (fun h0 => ?_) | refine t_case_not (fun h0 => ?_) (fun h0 => ?_) | refine t_case_intro (fun h0 => ?_) (fun h0 => ?_)
  rotate_left
  · simp only [go_sem]
    simp only [aresult, ares, go_sem]
    rw [show prsEq l m = false by simp [prsEq]; omega]
  have hn : l.length = m.length := by omega
  have eS : prsEq l m = (l.zip m).all fun z => prEq z.1 z.2 := by simp [prsEq, hn]
  simp only [go_sem]
  refine t_loop_intro (fun k : Nat => k ≤ l.length ∧ ((l.zip m).all (fun z => prEq z.1 z.2) = ((l.zip m).drop k).all (fun z => prEq z.1 z.2))) (fun k => l.length - k) 0 [4, 5, 11, 12, 13, 14, 15, 16, 17, 18, 19, 20, 21, 22, 23, 24, 25] (fun k => [(5, .a (.int .i64 k))]) ⟨by omega, by rfl⟩ (by simp) (fun k => by simp) rfl ?_
  intro k hk0 fr_ hfr
  have hk : k ≤ l.length := hk0.1
  have hall := hk0.2
  clear hk0
  simp only [go_sem] at hfr
  subst hfr
  by_cases hlt : k < l.length
  · have h3 : (k : Int) < (l.length : Int) := by omega
    have hlb : k < m.length := by omega
    have h3b : (k : Int) < (m.length : Int) := by omega
    have ew := wrap1 k l.length hlt hl
    have e := getD_map Pr.row l k hlt
    have eb := getD_map Pr.row m k hlb
    have er : l[k].row = [.str l[k].key, .int .i64 l[k].v.kind, .int .i64 l[k].v.n, .str l[k].v.s] := rfl
    have erb : m[k].row = [.str m[k].key, .int .i64 m[k].v.kind, .int .i64 m[k].v.n, .str m[k].v.s] := rfl
    have ez := zip_step (fun z => prEq z.1 z.2) l m k hlt hlb
    simp only [h3, h3b, e, eb, er, erb, go_sem]
    first | refine t_case_dec (fun h7 => ?_) (fun h7 => ?_) | refine t_case_ndec (fun h7 => ?_) (fun h7 => ?_) | refine t_case_eqI (fun h7 => ?_) (fun h7 => ?_) | refine t_case_neI (fun h7 => ?_) (fun h7 => ?_) | refine t_case_not (fun h7 => ?_) (fun h7 => ?_) | refine t_case_intro (fun h7 => ?_) (fun h7 => ?_)
    · have h8 : prEq l[k] m[k] = true := by simpa [prEq, vlEq, Bool.and_assoc] using h7
      simp only [ew, go_sem]
      refine t_round (k + 1) ⟨by omega, by rw [hall, ez, h8]; rfl⟩ (by omega) (by simp) rfl rfl (by simp) rfl
    · have h8 : prEq l[k] m[k] = false := by simpa [prEq, vlEq, Bool.and_assoc] using h7
      simp only [go_sem]
      simp only [aresult, ares, go_sem]
      rw [eS, hall, ez, h8]; rfl
  · have h3 : ¬ (k : Int) < (l.length : Int) := by omega
    simp only [h3, go_sem]
    simp only [aresult, ares, go_sem]
    rw [eS, hall, zip_end _ _ _ _ (by omega)]

set_option maxHeartbeats 4000000 in
theorem DigestPairs_den (l : List Pr) (hl : Prs.arg l) (key : ByteArray) (b : Int) : PDen Try.prog 6 [.a (.slice 4 (l.map Pr.row)), .a (.str key), .a (.int .i64 b)] (.a (.bool true)) := by
  have hw := few_den l 12 hl.len
  change PDen _ _ [_, .a (.int .i64 12)] _ at hw
  refine den_of_body k_law53_DigestPairs ⟨rfl, Nat.le_of_ble_eq_true rfl, thaw_intro ?_⟩
  unfold c_law53_DigestPairs
  simp only [go_sem]
  refine t_call_intro (hw) ?_
  cases hf : fewL l 12 with
  | false =>
    simp only [go_sem]
    refine t_call_intro (lives_den) ?_
    simp only [go_sem]
    simp only [aresult, ares, go_sem]
  | true =>
    obtain ⟨f1, f2⟩ := few_of hf hl.all
    by_cases h1 : key.size ≤ 200
    rotate_left
    · have q : (200 : Int) < (key.size : Int) := by omega
      simp only [q, go_sem]
      refine t_call_intro (lives_den) ?_
      simp only [go_sem]
      simp only [aresult, ares, go_sem]
    have q1 : ¬ (200 : Int) < (key.size : Int) := by omega
    simp only [q1, go_sem]
    refine t_loop_intro (fun k : Nat => k ≤ l.length) (fun k => l.length - k) 0 [6, 7, 17, 18, 19, 20, 21, 22, 23, 24, 25, 26, 27, 28, 29, 30, 31, 32, 33] (fun k => [(7, .a (.int .i64 k))]) (by omega) (by simp) (fun k => by simp) rfl ?_
    intro k hk fr_ hfr
    simp only [go_sem] at hfr
    subst hfr
    by_cases hlt : k < l.length
    · have h3 : (k : Int) < (l.length : Int) := by omega
      have e := getD_map Pr.row l k hlt
      have ew := wrap1 k l.length hlt (by omega)
      have hp := f2 _ (List.getElem_mem hlt)
      have n3 : (((pairN l[k] : Nat) : Int) != ((pairN l[k] : Nat) : Int)) = false := by simp
      simp only [h3, e, go_sem]
      refine t_call_intro (pair_den l[k] hp) ?_
      simp only [h3, e, go_sem]
      refine t_call_intro (rpair_den l[k] hp) ?_
      simp only [n3, ew, go_sem]
      refine t_round (k + 1) (by omega) (by omega) (by simp) rfl rfl (by simp) rfl
    · have h3 : ¬ (k : Int) < (l.length : Int) := by omega
      have hln : (l.filter (keysF b)).length ≤ l.length := List.length_filter_le _ _
      have d3 := rsame06_den (l.filter (keysF b)) (l.filter (keysF b)) (by omega)
      rw [(prsEq_iff _ _).2 rfl] at d3
      simp only [h3, go_sem]
      refine t_call_intro (bucket_den key (by omega)) ?_
      simp only [go_sem]
      refine t_call_intro (rbucket_den key (by omega)) ?_
      simp only [beq_self_eq_true, go_sem]
      refine t_call_intro (keys_den l b (by omega) f2) ?_
      simp only [go_sem]
      refine t_call_intro (rkeys_den l b (by omega) f2) ?_
      simp only [go_sem]
      refine t_call_intro (d3) ?_
      simp only [go_sem]
      refine t_call_intro (lives_den) ?_
      simp only [go_sem]
      simp only [aresult, ares, go_sem]
theorem un_string1 {n : Nat} {x : Atom} (h : Has Try.prog (n + 1) 9 [x]) : ∃ s : ByteArray, x = .str s := by
  unfold Has at h; rw [Try.underlying9] at h
  obtain ⟨s, e, _⟩ := h
  cases e
  exact ⟨s, rfl⟩
end Go.Proofs.Ytknmjfojlnajjaa
