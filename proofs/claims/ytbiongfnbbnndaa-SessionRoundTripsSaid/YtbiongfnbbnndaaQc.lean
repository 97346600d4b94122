/- Chapter 37: valid sessions, of the program and of the reference. -/
import Derived.Test.YtbiongfnbbnndaaQb
set_option linter.unusedSimpArgs false
set_option linter.unusedVariables false
namespace Go.Proofs.Ytbiongfnbbnndaa
open Go Ab Go.RowKit
set_option maxRecDepth 100000
attribute [local irreducible] awp aops aop asoft aeff aloop acall acallI acallT
attribute [local go_sem] Vl.row sRow fpRow Req.row Rpl.row Ses.row

def storedI (nx : Int) : Int := if nx - 1 < 8 then nx - 1 else 8
def rpOk (cl sq : Int) (r : Rpl) : Bool := (r.cl == cl) && (r.sq == sq) && outV r.st r.cd r.out
def rsGo (cl : Int) : Int → List Rpl → Bool
  | _, [] => true
  | sq, r :: rs => rpOk cl sq r && rsGo cl (sq + 1) rs
theorem rsGo_step (cl sq : Int) (l : List Rpl) (k : Nat) (h : k < l.length) : rsGo cl sq (l.drop k) = (rpOk cl sq l[k] && rsGo cl (sq + 1) (l.drop (k + 1))) := by
  rw [List.drop_eq_getElem_cons h]; rfl
def sHead (s : Ses) : Bool := decide (1 ≤ s.cl) && decide (s.cl ≤ 32) && decide (1 ≤ s.nx) && decide (s.nx ≤ 1099511627776) && ((s.rs.length : Int) == storedI s.nx)
def sesV (s : Ses) : Bool := sHead s && rsGo s.cl (s.nx - s.rs.length) s.rs
theorem stored_den (nx : Int) (h1 : 1 ≤ nx) (h2 : nx ≤ 1099511627776) : PDen Try.prog 55 [.a (.int .i64 nx)] (.a (.int .i64 (storedI nx))) := by
  have ew : IntKind.i64.wrap (nx - 1) = nx - 1 := by rw [IntKind.wrap_i64]; omega
  have ew2 : IntKind.i64.wrap (storedI nx) = storedI nx := by rw [IntKind.wrap_i64]; unfold storedI; split <;> omega
  unfold storedI at ew2 ⊢
  refine den_of_body k_session_stored ⟨rfl, Nat.le_of_ble_eq_true rfl, thaw_intro ?_⟩
  unfold c_session_stored
  simp only [ew, ew2, go_sem]
  simp only [aresult, ares, go_sem]
theorem rkept_den (nx : Int) (h1 : 1 ≤ nx) (h2 : nx ≤ 1099511627776) : PDen Try.prog 63 [.a (.int .i64 nx)] (.a (.int .i64 (storedI nx))) := by
  have ew : IntKind.i64.wrap (nx - 1) = nx - 1 := by rw [IntKind.wrap_i64]; omega
  have ew2 : IntKind.i64.wrap (storedI nx) = storedI nx := by rw [IntKind.wrap_i64]; unfold storedI; split <;> omega
  unfold storedI at ew2 ⊢
  refine den_of_body k_ref37_kept ⟨rfl, Nat.le_of_ble_eq_true rfl, thaw_intro ?_⟩
  unfold c_ref37_kept
  simp only [ew, ew2, go_sem]
  simp only [aresult, ares, go_sem]
theorem sHead_cases (s : Ses) : sHead s = true ∨ (sHead s = false ∧ (s.cl < 1 ∨ (¬ s.cl < 1 ∧ 32 < s.cl) ∨ (¬ s.cl < 1 ∧ ¬ 32 < s.cl ∧ s.nx < 1) ∨ (¬ s.cl < 1 ∧ ¬ 32 < s.cl ∧ ¬ s.nx < 1 ∧ 1099511627776 < s.nx) ∨ (¬ s.cl < 1 ∧ ¬ 32 < s.cl ∧ ¬ s.nx < 1 ∧ ¬ 1099511627776 < s.nx ∧ ((s.rs.length : Int) != storedI s.nx) = true))) := by
  unfold sHead
  by_cases h1 : s.cl < 1
  · exact .inr ⟨by rw [decide_eq_false (show ¬ 1 ≤ s.cl by omega)]; rfl, .inl h1⟩
  · rw [decide_eq_true (show 1 ≤ s.cl by omega), Bool.true_and]
    by_cases h2 : 32 < s.cl
    · exact .inr ⟨by rw [decide_eq_false (show ¬ s.cl ≤ 32 by omega)]; rfl, .inr (.inl ⟨h1, h2⟩)⟩
    · rw [decide_eq_true (show s.cl ≤ 32 by omega), Bool.true_and]
      by_cases h3 : s.nx < 1
      · exact .inr ⟨by rw [decide_eq_false (show ¬ 1 ≤ s.nx by omega)]; rfl, .inr (.inr (.inl ⟨h1, h2, h3⟩))⟩
      · rw [decide_eq_true (show 1 ≤ s.nx by omega), Bool.true_and]
        by_cases h4 : 1099511627776 < s.nx
        · exact .inr ⟨by rw [decide_eq_false (show ¬ s.nx ≤ 1099511627776 by omega)]; rfl, .inr (.inr (.inr (.inl ⟨h1, h2, h3, h4⟩)))⟩
        · rw [decide_eq_true (show s.nx ≤ 1099511627776 by omega), Bool.true_and]
          cases h5 : ((s.rs.length : Int) == storedI s.nx) with
          | true => exact .inl rfl
          | false => exact .inr ⟨rfl, .inr (.inr (.inr (.inr ⟨h1, h2, h3, h4, by rw [bne, h5]; rfl⟩)))⟩
structure SHead (s : Ses) : Prop where
  c1 : ¬ s.cl < 1
  c2 : ¬ 32 < s.cl
  n1 : ¬ s.nx < 1
  n2 : ¬ 1099511627776 < s.nx
  le : ((s.rs.length : Int) != storedI s.nx) = false
  l8 : s.rs.length ≤ 8
theorem sHead_of {s : Ses} (h : sHead s = true) : SHead s := by
  unfold sHead at h
  simp only [Bool.and_eq_true, decide_eq_true_eq, beq_iff_eq] at h
  obtain ⟨⟨⟨⟨h1, h2⟩, h3⟩, h4⟩, h5⟩ := h
  refine ⟨by omega, by omega, by omega, by omega, by rw [h5]; simp, ?_⟩
  unfold storedI at h5
  split at h5 <;> omega
set_option maxHeartbeats 4000000 in
theorem sesV_den (s : Ses) (hf : s.fit) : PDen Try.prog 32 [.agg s.row] (.a (.bool (sesV s))) := by
  unfold sesV
  rcases sHead_cases s with h0 | ⟨h0, hc⟩
  · have H := sHead_of h0
    have h1 := H.c1
    have h2 := H.c2
    have h3 := H.n1
    have h4 := H.n2
    have h5 := H.le
    have h8 := H.l8
    have hst := stored_den s.nx (by omega) (by omega)
    have ewf : IntKind.i64.wrap (s.nx - (s.rs.length : Int)) = s.nx - (s.rs.length : Int) := by rw [IntKind.wrap_i64]; omega
    rw [h0, Bool.true_and]
    refine den_of_body k_session_validSession ⟨rfl, Nat.le_of_ble_eq_true rfl, thaw_intro ?_⟩
    unfold c_session_validSession
    simp only [h1, h2, h3, h4, go_sem]
    refine t_call_intro (hst) ?_
    simp only [h5, ewf, go_sem]
    refine t_loop_intro (fun k : Nat => k ≤ s.rs.length ∧ (rsGo s.cl (s.nx - s.rs.length) s.rs = rsGo s.cl (s.nx - s.rs.length + k) (s.rs.drop k))) (fun k => s.rs.length - k) 0 [2, 4, 5, 42, 43, 44, 45, 46, 47, 48, 49, 50, 51, 52, 53, 54, 55, 56, 57, 58, 59, 60, 61, 62, 63, 64, 65] (fun k => [(42, .a (.int .i64 k))]) ⟨by omega, by simp⟩ (by simp) (fun k => by simp) rfl ?_
    intro k hk0 fr_ hfr
    have hk : k ≤ s.rs.length := hk0.1
    have hall := hk0.2
    clear hk0
    simp only [go_sem] at hfr
    subst hfr
    by_cases hlt : k < s.rs.length
    · have g1 : (k : Int) < (s.rs.length : Int) := by omega
      have ew := wrap1 k s.rs.length hlt (by omega)
      have e := getD_map Rpl.row s.rs k hlt
      have er : s.rs[k].row = [.int .i64 s.rs[k].cl, .int .i64 s.rs[k].sq, .int .i64 s.rs[k].st, .int .i64 s.rs[k].cd, .slice 3 (s.rs[k].out.map Vl.row)] := rfl
      have ew3 : IntKind.i64.wrap (s.nx - (s.rs.length : Int) + (k : Int)) = s.nx - (s.rs.length : Int) + (k : Int) := by rw [IntKind.wrap_i64]; omega
      have es := rsGo_step s.cl (s.nx - s.rs.length + k) s.rs k hlt
      have en : s.nx - (s.rs.length : Int) + (k : Int) + 1 = s.nx - (s.rs.length : Int) + ((k + 1 : Nat) : Int) := by omega
      rw [en] at es
      unfold rpOk at es
      have hd := outV_den s.rs[k].st s.rs[k].cd s.rs[k].out (hf.all _ (List.getElem_mem hlt))
      simp only [g1, e, er, ew3, go_sem]
      cases c1 : (s.rs[k].cl == s.cl) with
      | false =>
        simp only [Bool.false_and, Bool.not_false, go_sem]
        simp only [aresult, ares, go_sem]
        rw [hall, es, c1]; rfl
      | true =>
        cases c2 : (s.rs[k].sq == s.nx - (s.rs.length : Int) + (k : Int)) with
        | false =>
          simp only [Bool.true_and, Bool.false_and, Bool.not_false, go_sem]
          simp only [aresult, ares, go_sem]
          rw [hall, es, c1, c2]; rfl
        | true =>
          simp only [Bool.true_and, Bool.and_true, Bool.not_true, go_sem]
          refine t_call_intro (hd) ?_
          cases c3 : outV s.rs[k].st s.rs[k].cd s.rs[k].out with
          | false =>
            simp only [go_sem]
            simp only [aresult, ares, go_sem]
            rw [hall, es, c1, c2, c3]; rfl
          | true =>
            simp only [ew, go_sem]
            refine t_round (k + 1) ⟨by omega, by rw [hall, es, c1, c2, c3]; rfl⟩ (by omega) (by simp) rfl rfl (by simp) rfl
    · have g1 : ¬ (k : Int) < (s.rs.length : Int) := by omega
      simp only [g1, go_sem]
      simp only [aresult, ares, go_sem]
      rw [hall, List.drop_eq_nil_of_le (by omega)]; rfl
  · rw [h0, Bool.false_and]
    rcases hc with h1 | ⟨h1, h2⟩ | ⟨h1, h2, h3⟩ | ⟨h1, h2, h3, h4⟩ | ⟨h1, h2, h3, h4, h5⟩
    · refine den_of_body k_session_validSession ⟨rfl, Nat.le_of_ble_eq_true rfl, thaw_intro ?_⟩
      unfold c_session_validSession
      simp only [h1, go_sem]
      simp only [aresult, ares, go_sem]
    · refine den_of_body k_session_validSession ⟨rfl, Nat.le_of_ble_eq_true rfl, thaw_intro ?_⟩
      unfold c_session_validSession
      simp only [h1, h2, go_sem]
      simp only [aresult, ares, go_sem]
    · refine den_of_body k_session_validSession ⟨rfl, Nat.le_of_ble_eq_true rfl, thaw_intro ?_⟩
      unfold c_session_validSession
      simp only [h1, h2, h3, go_sem]
      simp only [aresult, ares, go_sem]
    · refine den_of_body k_session_validSession ⟨rfl, Nat.le_of_ble_eq_true rfl, thaw_intro ?_⟩
      unfold c_session_validSession
      simp only [h1, h2, h3, h4, go_sem]
      simp only [aresult, ares, go_sem]
    · have hst := stored_den s.nx (by omega) (by omega)
      refine den_of_body k_session_validSession ⟨rfl, Nat.le_of_ble_eq_true rfl, thaw_intro ?_⟩
      unfold c_session_validSession
      simp only [h1, h2, h3, h4, go_sem]
      refine t_call_intro (hst) ?_
      simp only [h5, go_sem]
      simp only [aresult, ares, go_sem]
set_option maxHeartbeats 4000000 in
theorem rsesV_den (s : Ses) (hf : s.fit) : PDen Try.prog 42 [.agg s.row] (.a (.bool (sesV s))) := by
  unfold sesV
  rcases sHead_cases s with h0 | ⟨h0, hc⟩
  · have H := sHead_of h0
    have h1 := H.c1
    have h2 := H.c2
    have h3 := H.n1
    have h4 := H.n2
    have h5 := H.le
    have h8 := H.l8
    have hst := rkept_den s.nx (by omega) (by omega)
    rw [h0, Bool.true_and]
    refine den_of_body k_ref37_validSession ⟨rfl, Nat.le_of_ble_eq_true rfl, thaw_intro ?_⟩
    unfold c_ref37_validSession
    simp only [h1, h2, h3, h4, go_sem]
    refine t_call_intro (hst) ?_
    simp only [h5, go_sem]
    refine t_loop_intro (fun k : Nat => k ≤ s.rs.length ∧ (rsGo s.cl (s.nx - s.rs.length) s.rs = rsGo s.cl (s.nx - s.rs.length + k) (s.rs.drop k))) (fun k => s.rs.length - k) 0 [2, 3, 4, 32, 33, 34, 35, 36, 37, 38, 39, 40, 41, 42, 43, 44, 45, 46, 47, 48, 49, 50, 51, 52, 53, 54, 55, 56, 57, 58, 59, 60, 61, 62, 63, 64, 65, 66, 67] (fun k => [(3, .a (.int .i64 k))]) ⟨by omega, by simp⟩ (by simp) (fun k => by simp) rfl ?_
    intro k hk0 fr_ hfr
    have hk : k ≤ s.rs.length := hk0.1
    have hall := hk0.2
    clear hk0
    simp only [go_sem] at hfr
    subst hfr
    by_cases hlt : k < s.rs.length
    · have g1 : (k : Int) < (s.rs.length : Int) := by omega
      have ew := wrap1 k s.rs.length hlt (by omega)
      have e := getD_map Rpl.row s.rs k hlt
      have er : s.rs[k].row = [.int .i64 s.rs[k].cl, .int .i64 s.rs[k].sq, .int .i64 s.rs[k].st, .int .i64 s.rs[k].cd, .slice 3 (s.rs[k].out.map Vl.row)] := rfl
      have ew2 : IntKind.i64.wrap ((s.rs.length : Int) - (k : Int)) = (s.rs.length : Int) - (k : Int) := by rw [IntKind.wrap_i64]; omega
      have ew3 : IntKind.i64.wrap (s.nx - ((s.rs.length : Int) - (k : Int))) = s.nx - (s.rs.length : Int) + (k : Int) := by rw [IntKind.wrap_i64]; omega
      have es := rsGo_step s.cl (s.nx - s.rs.length + k) s.rs k hlt
      have en : s.nx - (s.rs.length : Int) + (k : Int) + 1 = s.nx - (s.rs.length : Int) + ((k + 1 : Nat) : Int) := by omega
      rw [en] at es
      unfold rpOk at es
      have hd := routV_den s.rs[k].st s.rs[k].cd s.rs[k].out (hf.all _ (List.getElem_mem hlt))
      simp only [g1, e, er, ew2, ew3, go_sem]
      cases c1 : (s.rs[k].cl == s.cl) with
      | false =>
        have d1 : (s.rs[k].cl != s.cl) = true := by rw [bne, c1]; rfl
        simp only [d1, go_sem]
        simp only [aresult, ares, go_sem]
        rw [hall, es, c1]; rfl
      | true =>
        have d1 : (s.rs[k].cl != s.cl) = false := by rw [bne, c1]; rfl
        cases c2 : (s.rs[k].sq == s.nx - (s.rs.length : Int) + (k : Int)) with
        | false =>
          have d2 : (s.rs[k].sq != s.nx - (s.rs.length : Int) + (k : Int)) = true := by rw [bne, c2]; rfl
          simp only [d1, ew2, ew3, d2, go_sem]
          simp only [aresult, ares, go_sem]
          rw [hall, es, c1, c2]; rfl
        | true =>
          have d2 : (s.rs[k].sq != s.nx - (s.rs.length : Int) + (k : Int)) = false := by rw [bne, c2]; rfl
          simp only [d1, ew2, ew3, d2, go_sem]
          refine t_call_intro (hd) ?_
          cases c3 : outV s.rs[k].st s.rs[k].cd s.rs[k].out with
          | false =>
            simp only [go_sem]
            simp only [aresult, ares, go_sem]
            rw [hall, es, c1, c2, c3]; rfl
          | true =>
            simp only [ew, go_sem]
            refine t_round (k + 1) ⟨by omega, by rw [hall, es, c1, c2, c3]; rfl⟩ (by omega) (by simp) rfl rfl (by simp) rfl
    · have g1 : ¬ (k : Int) < (s.rs.length : Int) := by omega
      simp only [g1, go_sem]
      simp only [aresult, ares, go_sem]
      rw [hall, List.drop_eq_nil_of_le (by omega)]; rfl
  · rw [h0, Bool.false_and]
    rcases hc with h1 | ⟨h1, h2⟩ | ⟨h1, h2, h3⟩ | ⟨h1, h2, h3, h4⟩ | ⟨h1, h2, h3, h4, h5⟩
    · refine den_of_body k_ref37_validSession ⟨rfl, Nat.le_of_ble_eq_true rfl, thaw_intro ?_⟩
      unfold c_ref37_validSession
      simp only [h1, go_sem]
      simp only [aresult, ares, go_sem]
    · refine den_of_body k_ref37_validSession ⟨rfl, Nat.le_of_ble_eq_true rfl, thaw_intro ?_⟩
      unfold c_ref37_validSession
      simp only [h1, h2, go_sem]
      simp only [aresult, ares, go_sem]
    · refine den_of_body k_ref37_validSession ⟨rfl, Nat.le_of_ble_eq_true rfl, thaw_intro ?_⟩
      unfold c_ref37_validSession
      simp only [h1, h2, h3, go_sem]
      simp only [aresult, ares, go_sem]
    · refine den_of_body k_ref37_validSession ⟨rfl, Nat.le_of_ble_eq_true rfl, thaw_intro ?_⟩
      unfold c_ref37_validSession
      simp only [h1, h2, h3, h4, go_sem]
      simp only [aresult, ares, go_sem]
    · have hst := rkept_den s.nx (by omega) (by omega)
      refine den_of_body k_ref37_validSession ⟨rfl, Nat.le_of_ble_eq_true rfl, thaw_intro ?_⟩
      unfold c_ref37_validSession
      simp only [h1, h2, h3, h4, go_sem]
      refine t_call_intro (hst) ?_
      simp only [h5, go_sem]
      simp only [aresult, ares, go_sem]

/-! Lists of sessions -/
def sStep : Option Ses → Ses → Bool
  | none, _ => true
  | some y, x => decide (y.cl < x.cl)
def sesGo : Option Ses → List Ses → Bool
  | _, [] => true
  | p, x :: xs => sesV x && sStep p x && sesGo (some x) xs
def sessV (l : List Ses) : Bool := sesGo none l
def spp (l : List Ses) : Nat → Option Ses
  | 0 => none
  | k + 1 => l[k]?
theorem sesGo_step (l : List Ses) (k : Nat) (h : k < l.length) : sesGo (spp l k) (l.drop k) = (sesV l[k] && sStep (spp l k) l[k] && sesGo (spp l (k + 1)) (l.drop (k + 1))) := by
  rw [List.drop_eq_getElem_cons h]
  have e : spp l (k + 1) = some l[k] := by simp [spp, h]
  rw [e]; rfl
theorem ses_rw (s : Ses) : s.row = [.int .i64 s.cl, .int .i64 s.nx, .slice 5 (s.rs.map Rpl.row)] := rfl
set_option maxHeartbeats 4000000 in
theorem sessV_den (l : List Ses) (hf : SesFit l) : PDen Try.prog 10 [.a (.slice 3 (l.map Ses.row))] (.a (.bool (sessV l))) := by
  have hl := hf.len
  unfold sessV
  refine den_of_body k_session_Valid ⟨rfl, Nat.le_of_ble_eq_true rfl, thaw_intro ?_⟩
  unfold c_session_Valid
  simp only [go_sem]
  refine t_loop_intro (fun k : Nat => k ≤ l.length ∧ (sesGo none l = sesGo (spp l k) (l.drop k))) (fun k => l.length - k) 0 [2, 3, 4, 7, 8, 9, 10, 11, 12, 13, 14, 15, 16, 17, 18, 19, 20, 21, 22, 23, 24, 25, 26, 27, 28, 29, 30] (fun k => [(7, .a (.int .i64 k))]) ⟨by omega, by rfl⟩ (by simp) (fun k => by simp) rfl ?_
  intro k hk0 fr_ hfr
  have hk : k ≤ l.length := hk0.1
  have hall := hk0.2
  clear hk0
  simp only [go_sem] at hfr
  subst hfr
  by_cases hlt : k < l.length
  · have g1 : (k : Int) < (l.length : Int) := by omega
    have ew := wrap1 k l.length hlt (by omega)
    have e := getD_map Ses.row l k hlt
    have er := ses_rw l[k]
    have es := sesGo_step l k hlt
    have hd := sesV_den l[k] (hf.all _ (List.getElem_mem hlt))
    rw [er] at hd
    simp only [g1, e, er, go_sem]
    refine t_call_intro (hd) ?_
    cases c1 : sesV l[k] with
    | false =>
      simp only [go_sem]
      simp only [aresult, ares, go_sem]
      rw [hall, es, c1]; rfl
    | true =>
      by_cases hk0 : k = 0
      · have g2 : ¬ (0 : Int) < (k : Int) := by omega
        have ep : spp l k = none := by rw [hk0]; rfl
        rw [ep] at es
        simp only [g2, ew, go_sem]
        refine t_round (k + 1) ⟨by omega, by rw [hall, ep, es, c1]; rfl⟩ (by omega) (by simp) rfl rfl (by simp) rfl
      · have g2 : (0 : Int) < (k : Int) := by omega
        obtain ⟨j, hj0⟩ : ∃ j, j = k - 1 := ⟨_, rfl⟩
        have ekj : k = j + 1 := by omega
        have ewj : IntKind.i64.wrap ((k : Int) - 1) = (j : Int) := by rw [IntKind.wrap_i64]; omega
        have hj : j < l.length := by omega
        have g3 : (j : Int) < (l.length : Int) := by omega
        have ej := getD_map Ses.row l j hj
        have erj := ses_rw l[j]
        have ep : spp l k = some l[j] := by rw [ekj]; simp [spp, hj]
        rw [ep] at es
        by_cases c2 : l[j].cl < l[k].cl
        · have c3 : ¬ l[k].cl ≤ l[j].cl := by omega
          simp only [g2, ewj, g3, ej, erj, c3, ew, go_sem]
          refine t_round (k + 1) ⟨by omega, by rw [hall, ep, es, c1]; simp [sStep, c2]⟩ (by omega) (by simp) rfl rfl (by simp) rfl
        · have c3 : l[k].cl ≤ l[j].cl := by omega
          simp only [g2, ewj, g3, ej, erj, c3, go_sem]
          simp only [aresult, ares, go_sem]
          rw [hall, ep, es, c1]; simp [sStep, c2]
  · have g1 : ¬ (k : Int) < (l.length : Int) := by omega
    simp only [g1, go_sem]
    simp only [aresult, ares, go_sem]
    rw [hall, List.drop_eq_nil_of_le (by omega)]; cases spp l k <;> rfl
set_option maxHeartbeats 4000000 in
theorem rsessV_den (l : List Ses) (hf : SesFit l) : PDen Try.prog 23 [.a (.slice 3 (l.map Ses.row))] (.a (.bool (sessV l))) := by
  have hl := hf.len
  unfold sessV
  refine den_of_body k_ref37_Valid ⟨rfl, Nat.le_of_ble_eq_true rfl, thaw_intro ?_⟩
  unfold c_ref37_Valid
  simp only [go_sem]
  refine t_loop_intro (fun k : Nat => k ≤ l.length ∧ (sesGo none l = sesGo (spp l k) (l.drop k))) (fun k => l.length - k) 0 [2, 3, 4, 5, 6, 7, 8, 9, 10, 11, 12, 13, 14, 15, 16, 17, 18, 19, 20, 21, 22, 23, 24, 25, 26, 27, 28, 29, 30, 31, 32, 33] (fun k => [(3, .a (.int .i64 k))]) ⟨by omega, by rfl⟩ (by simp) (fun k => by simp) rfl ?_
  intro k hk0 fr_ hfr
  have hk : k ≤ l.length := hk0.1
  have hall := hk0.2
  clear hk0
  simp only [go_sem] at hfr
  subst hfr
  by_cases hlt : k < l.length
  · have g1 : (k : Int) < (l.length : Int) := by omega
    have ew := wrap1 k l.length hlt (by omega)
    have e := getD_map Ses.row l k hlt
    have er := ses_rw l[k]
    have es := sesGo_step l k hlt
    have hd := rsesV_den l[k] (hf.all _ (List.getElem_mem hlt))
    rw [er] at hd
    simp only [g1, e, er, go_sem]
    refine t_call_intro (hd) ?_
    cases c1 : sesV l[k] with
    | false =>
      simp only [go_sem]
      simp only [aresult, ares, go_sem]
      rw [hall, es, c1]; rfl
    | true =>
      by_cases hk0 : k = 0
      · have g2 : ¬ (0 : Int) < (k : Int) := by omega
        have ep : spp l k = none := by rw [hk0]; rfl
        rw [ep] at es
        simp only [g2, ew, go_sem]
        refine t_round (k + 1) ⟨by omega, by rw [hall, ep, es, c1]; rfl⟩ (by omega) (by simp) rfl rfl (by simp) rfl
      · have g2 : (0 : Int) < (k : Int) := by omega
        obtain ⟨j, hj0⟩ : ∃ j, j = k - 1 := ⟨_, rfl⟩
        have ekj : k = j + 1 := by omega
        have ewj : IntKind.i64.wrap ((k : Int) - 1) = (j : Int) := by rw [IntKind.wrap_i64]; omega
        have hj : j < l.length := by omega
        have g3 : (j : Int) < (l.length : Int) := by omega
        have ej := getD_map Ses.row l j hj
        have erj := ses_rw l[j]
        have ep : spp l k = some l[j] := by rw [ekj]; simp [spp, hj]
        rw [ep] at es
        by_cases c2 : l[j].cl < l[k].cl
        · have c3 : ¬ l[k].cl ≤ l[j].cl := by omega
          simp only [g1, e, er, g2, ewj, g3, ej, erj, c3, ew, go_sem]
          refine t_round (k + 1) ⟨by omega, by rw [hall, ep, es, c1]; simp [sStep, c2]⟩ (by omega) (by simp) rfl rfl (by simp) rfl
        · have c3 : l[k].cl ≤ l[j].cl := by omega
          simp only [g1, e, er, g2, ewj, g3, ej, erj, c3, go_sem]
          simp only [aresult, ares, go_sem]
          rw [hall, ep, es, c1]; simp [sStep, c2]
  · have g1 : ¬ (k : Int) < (l.length : Int) := by omega
    simp only [g1, go_sem]
    simp only [aresult, ares, go_sem]
    rw [hall, List.drop_eq_nil_of_le (by omega)]; cases spp l k <;> rfl
end Go.Proofs.Ytbiongfnbbnndaa
