/- Chapter 37: copies, Lookup, Filter; of the program and of the reference. -/
import Derived.Test.YtbiongfnbbnndaaQd
set_option linter.unusedSimpArgs false
set_option linter.unusedVariables false
namespace Go.Proofs.Ytbiongfnbbnndaa
open Go Ab Go.RowKit
set_option maxRecDepth 100000
attribute [local irreducible] awp aops aop asoft aeff aloop acall acallI acallT
attribute [local go_sem] Vl.row sRow fpRow Req.row Rpl.row Ses.row

theorem rpl_rw (r : Rpl) : r.row = [.int .i64 r.cl, .int .i64 r.sq, .int .i64 r.st, .int .i64 r.cd, .slice 3 (r.out.map Vl.row)] := rfl
theorem cloneR_den (r : Rpl) (h : r.out.length * 32 ≤ 140737488351232) : PDen Try.prog 34 [.agg r.row] (.agg r.row) := by
  rw [rpl_rw]
  refine den_of_body k_session_clone ⟨rfl, Nat.le_of_ble_eq_true rfl, thaw_intro ?_⟩
  unfold c_session_clone
  simp only [go_sem]
  refine t_call_intro (clVals_den r.out h) ?_
  simp only [go_sem]
  simp only [aresult, ares, go_sem]
theorem copied_den (r : Req) (h : r.bulk) : PDen Try.prog 31 [.agg r.row] (.agg r.row) := by
  rw [rowr]
  refine den_of_body k_session_copied ⟨rfl, Nat.le_of_ble_eq_true rfl, thaw_intro ?_⟩
  unfold c_session_copied
  simp only [go_sem]
  refine t_call_intro (clVals_den r.args h.args) ?_
  simp only [go_sem]
  refine t_call_intro (clStrs_den r.rd h.rd) ?_
  simp only [go_sem]
  refine t_call_intro (clStrs_den r.wt h.wt) ?_
  simp only [go_sem]
  simp only [aresult, ares, go_sem]
/-! The stored reply -/
def rpl0 : Rpl := ⟨0, 0, 0, 0, []⟩
def rpOf (l : List Rpl) (q : Int) : Option Rpl := l.find? fun r => r.sq == q
theorem rpOf_drop (l : List Rpl) (q : Int) (k : Nat) (h : k < l.length) : rpOf (l.drop k) q = if l[k].sq = q then some l[k] else rpOf (l.drop (k + 1)) q := by
  rw [List.drop_eq_getElem_cons h]
  unfold rpOf
  by_cases hq : l[k].sq = q
  · rw [if_pos hq, List.find?_cons_of_pos (by simpa using hq)]
  · rw [if_neg hq, List.find?_cons_of_neg (by simpa using hq)]
def lookP (l : List Ses) (c q : Int) : Rpl × Int :=
  if (sessV l && decide (1 ≤ q)) = false then (rpl0, 1)
  else if nextI l c ≤ q then (rpl0, 9)
  else match rpOf (fndC l c).rs q with
    | none => (rpl0, 15)
    | some r => (r, 0)
theorem zrp_le (e : Int) : VLe (.tup [.agg [.int .i64 0, .int .i64 0, .int .i64 0, .int .i64 0, .nils], .a (.int .i64 e)]) (.tup [.agg rpl0.row, .a (.int .i64 e)]) :=
  VLe.tup ⟨VLe.agg ⟨RLe.refl _, RLe.refl _, RLe.refl _, RLe.refl _, RLe.nils 3, trivial⟩, VLe.refl _, trivial⟩
theorem rsGo_cl : ∀ (l : List Rpl) (cl sq : Int), rsGo cl sq l = true → ∀ r ∈ l, r.cl = cl ∧ outV r.st r.cd r.out = true
  | [], _, _, _ => fun r h => by simp at h
  | x :: xs, cl, sq, h => fun r hr => by
    unfold rsGo rpOk at h
    simp only [Bool.and_eq_true, beq_iff_eq] at h
    rcases List.mem_cons.1 hr with rfl | hr
    · exact ⟨h.1.1.1, h.1.2⟩
    · exact rsGo_cl xs cl (sq + 1) h.2 r hr
theorem ses_cl {s : Ses} (h : sesV s = true) : ∀ r ∈ s.rs, r.cl = s.cl ∧ outV r.st r.cd r.out = true := by
  unfold sesV at h
  rw [Bool.and_eq_true] at h
  exact rsGo_cl _ _ _ h.2
structure SesBulk (l : List Ses) : Prop where
  fit : SesFit l
  all : ∀ s ∈ l, ∀ r ∈ s.rs, r.out.length * 32 ≤ 140737488351232
set_option maxHeartbeats 4000000 in
theorem lookup_den (l : List Ses) (hb : SesBulk l) (c q : Int) : PDen Try.prog 14 [.a (.slice 3 (l.map Ses.row)), .a (.int .i64 c), .a (.int .i64 q)] (.tup [.agg (lookP l c q).1.row, .a (.int .i64 (lookP l c q).2)]) := by
  have hf := hb.fit
  have hv := sessV_den l hf
  unfold lookP
  cases h : sessV l with
  | false =>
    rw [h] at hv
    rw [if_pos (by rfl)]
    refine PDen.le ?_ (zrp_le 1)
    refine den_of_body k_session_Lookup ⟨rfl, Nat.le_of_ble_eq_true rfl, thaw_intro ?_⟩
    unfold c_session_Lookup
    simp only [go_sem]
    refine t_call_intro (hv) ?_
    simp only [go_sem]
    simp only [aresult, ares, go_sem]
  | true =>
    rw [h] at hv
    have ha := sessV_asc h
    have hnx := next_den l c hf.len ha.1
    by_cases hq : 1 ≤ q
    · have hq2 : ¬ q < 1 := by omega
      rw [if_neg (by rw [decide_eq_true hq]; simp)]
      by_cases hn : nextI l c ≤ q
      · rw [if_pos hn]
        refine PDen.le ?_ (zrp_le 9)
        refine den_of_body k_session_Lookup ⟨rfl, Nat.le_of_ble_eq_true rfl, thaw_intro ?_⟩
        unfold c_session_Lookup
        simp only [go_sem]
        refine t_call_intro (hv) ?_
        simp only [hq2, go_sem]
        refine t_call_intro (hnx) ?_
        simp only [hn, go_sem]
        simp only [aresult, ares, go_sem]
      · rw [if_neg hn]
        have hfd := findC_den l c hf.len ha.1
        rcases loC_found c l ha.1 with ⟨h1, h2⟩ | ⟨h1, hl, h2⟩
        · exfalso
          unfold nextI at hn
          rw [h2] at hn
          simp only at hn
          omega
        · have g1 : ((loC c l : Nat) : Int) < (l.length : Int) := by omega
          have e := getD_map Ses.row l (loC c l) hl
          have hs : fndC l c = l[loC c l] := by unfold fndC; rw [h2]
          have hm : l[loC c l] ∈ l := List.getElem_mem hl
          have hcl := ses_cl (ha.2 _ hm)
          have hsc : l[loC c l].cl = c := (sOf_mem h2).2
          have hlen := (hf.all _ hm).len
          have hbk := hb.all _ hm
          rw [hs]
          generalize l[loC c l] = s at *
          have er := ses_rw s
          rw [h1] at hfd
          cases hr : rpOf s.rs q with
          | none =>
            refine PDen.le ?_ (zrp_le 15)
            refine den_of_body k_session_Lookup ⟨rfl, Nat.le_of_ble_eq_true rfl, thaw_intro ?_⟩
            unfold c_session_Lookup
            simp only [go_sem]
            refine t_call_intro (hv) ?_
            simp only [hq2, go_sem]
            refine t_call_intro (hnx) ?_
            simp only [hn, go_sem]
            refine t_call_intro (hfd) ?_
            simp only [g1, e, er, go_sem]
            refine t_loop_intro (fun j : Nat => j ≤ s.rs.length ∧ (rpOf (s.rs.drop j) q = none)) (fun j => s.rs.length - j) 0 [7, 11, 38, 39, 40, 41, 42, 43, 44, 45, 46, 47, 48, 49, 50, 51, 52, 53] (fun j => [(38, .a (.int .i64 j))]) ⟨by omega, by exact hr⟩ (by simp) (fun j => by simp) rfl ?_
            intro j hk0j fr_ hfr
            have hkj : j ≤ s.rs.length := hk0j.1
            have hallj := hk0j.2
            clear hk0j
            simp only [go_sem] at hfr
            subst hfr
            by_cases hltj : j < s.rs.length
            · have h3 : (j : Int) < (s.rs.length : Int) := by omega
              have ew := wrap1 j s.rs.length hltj (by omega)
              have e2 := getD_map Rpl.row s.rs j hltj
              have er2 := rpl_rw s.rs[j]
              have es := rpOf_drop s.rs q j hltj
              rw [hallj] at es
              have hk : ¬ s.rs[j].sq = q := fun z => by rw [if_pos z] at es; cases es
              rw [if_neg hk] at es
              have h4 : (s.rs[j].sq == q) = false := by simpa using hk
              have h5 : (s.rs[j].cl == c) = true := by rw [(hcl _ (List.getElem_mem hltj)).1, hsc]; simp
              simp only [h3, e2, er2, h4, h5, Bool.true_and, Bool.false_and, ew, go_sem]
              refine t_round (j + 1) ⟨by omega, es.symm⟩ (by omega) (by simp) rfl rfl (by simp) rfl
            · have h3 : ¬ (j : Int) < (s.rs.length : Int) := by omega
              simp only [h3, go_sem]
              simp only [aresult, ares, go_sem]
          | some r =>
            refine den_of_body k_session_Lookup ⟨rfl, Nat.le_of_ble_eq_true rfl, thaw_intro ?_⟩
            unfold c_session_Lookup
            simp only [go_sem]
            refine t_call_intro (hv) ?_
            simp only [hq2, go_sem]
            refine t_call_intro (hnx) ?_
            simp only [hn, go_sem]
            refine t_call_intro (hfd) ?_
            simp only [g1, e, er, go_sem]
            refine t_loop_intro (fun j : Nat => j ≤ s.rs.length ∧ (rpOf (s.rs.drop j) q = some r)) (fun j => s.rs.length - j) 0 [7, 11, 38, 39, 40, 41, 42, 43, 44, 45, 46, 47, 48, 49, 50, 51, 52, 53] (fun j => [(38, .a (.int .i64 j))]) ⟨by omega, by exact hr⟩ (by simp) (fun j => by simp) rfl ?_
            intro j hk0j fr_ hfr
            have hkj : j ≤ s.rs.length := hk0j.1
            have hallj := hk0j.2
            clear hk0j
            simp only [go_sem] at hfr
            subst hfr
            by_cases hltj : j < s.rs.length
            · have h3 : (j : Int) < (s.rs.length : Int) := by omega
              have ew := wrap1 j s.rs.length hltj (by omega)
              have e2 := getD_map Rpl.row s.rs j hltj
              have er2 := rpl_rw s.rs[j]
              have es := rpOf_drop s.rs q j hltj
              rw [hallj] at es
              have h5 : (s.rs[j].cl == c) = true := by rw [(hcl _ (List.getElem_mem hltj)).1, hsc]; simp
              by_cases hk : s.rs[j].sq = q
              · rw [if_pos hk] at es
                have h4 : (s.rs[j].sq == q) = true := by simpa using hk
                have hc := cloneR_den s.rs[j] (hbk _ (List.getElem_mem hltj))
                rw [er2] at hc
                cases es
                simp only [h3, e2, er2, h4, h5, Bool.true_and, go_sem]
                refine t_call_intro (hc) ?_
                simp only [go_sem]
                simp only [aresult, ares, go_sem]
              · rw [if_neg hk] at es
                have h4 : (s.rs[j].sq == q) = false := by simpa using hk
                simp only [h3, e2, er2, h4, h5, Bool.true_and, Bool.false_and, ew, go_sem]
                refine t_round (j + 1) ⟨by omega, es.symm⟩ (by omega) (by simp) rfl rfl (by simp) rfl
            · rw [List.drop_eq_nil_of_le (by omega)] at hallj
              cases hallj
    · have hq2 : q < 1 := by omega
      rw [if_pos (by rw [decide_eq_false hq]; rfl)]
      refine PDen.le ?_ (zrp_le 1)
      refine den_of_body k_session_Lookup ⟨rfl, Nat.le_of_ble_eq_true rfl, thaw_intro ?_⟩
      unfold c_session_Lookup
      simp only [go_sem]
      refine t_call_intro (hv) ?_
      simp only [hq2, go_sem]
      simp only [aresult, ares, go_sem]
set_option maxHeartbeats 4000000 in
theorem rlookup_den (l : List Ses) (hf : SesFit l) (c q : Int) : PDen Try.prog 22 [.a (.slice 3 (l.map Ses.row)), .a (.int .i64 c), .a (.int .i64 q)] (.tup [.agg (lookP l c q).1.row, .a (.int .i64 (lookP l c q).2)]) := by
  have hv := rsessV_den l hf
  have hfd := rfindC_den l c hf.len
  have en := nextI_fnd l c
  have hfl : (fndC l c).rs.length ≤ 3600000000000 := by
    unfold fndC
    cases hs : sOf l c with
    | none => exact Nat.zero_le _
    | some s => exact (hf.all s (sOf_mem hs).1).len
  unfold lookP
  generalize fndC l c = s at *
  rw [ses_rw] at hfd
  cases h : sessV l with
  | false =>
    rw [h] at hv
    rw [if_pos (by rfl)]
    refine PDen.le ?_ (zrp_le 1)
    refine den_of_body k_ref37_Lookup ⟨rfl, Nat.le_of_ble_eq_true rfl, thaw_intro ?_⟩
    unfold c_ref37_Lookup
    simp only [go_sem]
    refine t_call_intro (hv) ?_
    simp only [go_sem]
    simp only [aresult, ares, go_sem]
  | true =>
    rw [h] at hv
    by_cases hq : 1 ≤ q
    · have hq2 : ¬ q < 1 := by omega
      rw [if_neg (by rw [decide_eq_true hq]; simp)]
      by_cases hn : nextI l c ≤ q
      · rw [if_pos hn]
        refine PDen.le ?_ (zrp_le 9)
        refine den_of_body k_ref37_Lookup ⟨rfl, Nat.le_of_ble_eq_true rfl, thaw_intro ?_⟩
        unfold c_ref37_Lookup
        simp only [go_sem]
        refine t_call_intro (hv) ?_
        simp only [hq2, go_sem]
        refine t_call_intro (hfd) ?_
        simp only [en, hn, go_sem]
        simp only [aresult, ares, go_sem]
      · rw [if_neg hn]
        cases hr : rpOf s.rs q with
        | none =>
          refine PDen.le ?_ (zrp_le 15)
          refine den_of_body k_ref37_Lookup ⟨rfl, Nat.le_of_ble_eq_true rfl, thaw_intro ?_⟩
          unfold c_ref37_Lookup
          simp only [go_sem]
          refine t_call_intro (hv) ?_
          simp only [hq2, go_sem]
          refine t_call_intro (hfd) ?_
          simp only [en, hn, go_sem]
          refine t_loop_intro (fun j : Nat => j ≤ s.rs.length ∧ (rpOf (s.rs.drop j) q = none)) (fun j => s.rs.length - j) 0 [7, 9, 26, 27, 28, 29, 30, 31, 32, 33, 34, 35, 36, 37, 38, 39, 40, 41, 42, 43, 44, 45] (fun j => [(9, .a (.int .i64 j))]) ⟨by omega, by exact hr⟩ (by simp) (fun j => by simp) rfl ?_
          intro j hk0j fr_ hfr
          have hkj : j ≤ s.rs.length := hk0j.1
          have hallj := hk0j.2
          clear hk0j
          simp only [go_sem] at hfr
          subst hfr
          by_cases hltj : j < s.rs.length
          · have h3 : (j : Int) < (s.rs.length : Int) := by omega
            have ew := wrap1 j s.rs.length hltj (by omega)
            have e2 := getD_map Rpl.row s.rs j hltj
            have er2 := rpl_rw s.rs[j]
            have es := rpOf_drop s.rs q j hltj
            rw [hallj] at es
            have hk : ¬ s.rs[j].sq = q := fun z => by rw [if_pos z] at es; cases es
            rw [if_neg hk] at es
            have h4 : (s.rs[j].sq == q) = false := by simpa using hk
            simp only [h3, e2, er2, h4, ew, go_sem]
            refine t_round (j + 1) ⟨by omega, es.symm⟩ (by omega) (by simp) rfl rfl (by simp) rfl
          · have h3 : ¬ (j : Int) < (s.rs.length : Int) := by omega
            simp only [h3, go_sem]
            simp only [aresult, ares, go_sem]
        | some r =>
          refine den_of_body k_ref37_Lookup ⟨rfl, Nat.le_of_ble_eq_true rfl, thaw_intro ?_⟩
          unfold c_ref37_Lookup
          simp only [go_sem]
          refine t_call_intro (hv) ?_
          simp only [hq2, go_sem]
          refine t_call_intro (hfd) ?_
          simp only [en, hn, go_sem]
          refine t_loop_intro (fun j : Nat => j ≤ s.rs.length ∧ (rpOf (s.rs.drop j) q = some r)) (fun j => s.rs.length - j) 0 [7, 9, 26, 27, 28, 29, 30, 31, 32, 33, 34, 35, 36, 37, 38, 39, 40, 41, 42, 43, 44, 45] (fun j => [(9, .a (.int .i64 j))]) ⟨by omega, by exact hr⟩ (by simp) (fun j => by simp) rfl ?_
          intro j hk0j fr_ hfr
          have hkj : j ≤ s.rs.length := hk0j.1
          have hallj := hk0j.2
          clear hk0j
          simp only [go_sem] at hfr
          subst hfr
          by_cases hltj : j < s.rs.length
          · have h3 : (j : Int) < (s.rs.length : Int) := by omega
            have ew := wrap1 j s.rs.length hltj (by omega)
            have e2 := getD_map Rpl.row s.rs j hltj
            have er2 := rpl_rw s.rs[j]
            have es := rpOf_drop s.rs q j hltj
            rw [hallj] at es
            by_cases hk : s.rs[j].sq = q
            · rw [if_pos hk] at es
              have h4 : (s.rs[j].sq == q) = true := by simpa using hk
              cases es
              simp only [h3, e2, er2, h4, go_sem]
              simp only [aresult, ares, go_sem]
            · rw [if_neg hk] at es
              have h4 : (s.rs[j].sq == q) = false := by simpa using hk
              simp only [h3, e2, er2, h4, ew, go_sem]
              refine t_round (j + 1) ⟨by omega, es.symm⟩ (by omega) (by simp) rfl rfl (by simp) rfl
          · rw [List.drop_eq_nil_of_le (by omega)] at hallj
            cases hallj
    · have hq2 : q < 1 := by omega
      rw [if_pos (by rw [decide_eq_false hq]; rfl)]
      refine PDen.le ?_ (zrp_le 1)
      refine den_of_body k_ref37_Lookup ⟨rfl, Nat.le_of_ble_eq_true rfl, thaw_intro ?_⟩
      unfold c_ref37_Lookup
      simp only [go_sem]
      refine t_call_intro (hv) ?_
      simp only [hq2, go_sem]
      simp only [aresult, ares, go_sem]
end Go.Proofs.Ytbiongfnbbnndaa
