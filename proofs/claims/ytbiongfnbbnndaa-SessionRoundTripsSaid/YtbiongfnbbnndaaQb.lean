/- Chapter 37: sessions, replies; what is valid; the search. Of the program and of the reference. -/
import Derived.Test.YtbiongfnbbnndaaQa
set_option linter.unusedSimpArgs false
set_option linter.unusedVariables false
namespace Go.Proofs.Ytbiongfnbbnndaa
open Go Ab Go.RowKit
set_option maxRecDepth 100000
attribute [local irreducible] awp aops aop asoft aeff aloop acall acallI acallT
attribute [local go_sem] Vl.row sRow fpRow Req.row

structure Rpl where
  cl : Int
  sq : Int
  st : Int
  cd : Int
  out : List Vl
def Rpl.row (r : Rpl) : List Atom := [.int .i64 r.cl, .int .i64 r.sq, .int .i64 r.st, .int .i64 r.cd, .slice 3 (r.out.map Vl.row)]
structure Ses where
  cl : Int
  nx : Int
  rs : List Rpl
def Ses.row (s : Ses) : List Atom := [.int .i64 s.cl, .int .i64 s.nx, .slice 5 (s.rs.map Rpl.row)]
attribute [local go_sem] Rpl.row Ses.row
structure VlsFit (l : List Vl) : Prop where
  len : l.length ≤ 9223372036854775807
  all : ∀ v ∈ l, v.s.size ≤ 9223372036854775807
structure Ses.fit (s : Ses) : Prop where
  len : s.rs.length ≤ 3600000000000
  all : ∀ r ∈ s.rs, VlsFit r.out
structure SesFit (l : List Ses) : Prop where
  len : l.length ≤ 3600000000000
  all : ∀ s ∈ l, s.fit
/-! Outcomes -/
def vgood (v : Vl) : Bool := valV v && !(v.kind == 0)
def outV (st cd : Int) (out : List Vl) : Bool :=
  if st = 1 then (cd == 0) && decide (out.length ≤ 16) && out.all vgood
  else (st == 2) && decide (0 ≤ cd) && decide (cd ≤ 1009) && decide (out.length = 0)
theorem allQ_step {α : Type} (f : α → Bool) (l : List α) (k : Nat) (h : k < l.length) : (l.drop k).all f = (f l[k] && (l.drop (k + 1)).all f) := by
  rw [List.drop_eq_getElem_cons h, List.all_cons]
theorem vl_rw (v : Vl) : v.row = [.int .i64 v.kind, .int .i64 v.n, .str v.s] := rfl
set_option maxHeartbeats 2000000 in
theorem outV_den (st cd : Int) (out : List Vl) (hf : VlsFit out) : PDen Try.prog 33 [.agg [.int .i64 st, .int .i64 cd, .slice 3 (out.map Vl.row)]] (.a (.bool (outV st cd out))) := by
  have hl := hf.len
  unfold outV
  by_cases h1 : st = 1
  · rw [if_pos h1]
    subst h1
    have c1 : ((1 : Int) == 1) = true := rfl
    by_cases h2 : cd = 0
    · subst h2
      have c2 : ((0 : Int) != 0) = false := rfl
      have c2' : ((0 : Int) == 0) = true := rfl
      rw [c2', Bool.true_and]
      by_cases h3 : out.length ≤ 16
      · have c3 : ¬ (16 : Int) < (out.length : Int) := by omega
        rw [decide_eq_true h3, Bool.true_and]
        refine den_of_body k_session_validOutcome ⟨rfl, Nat.le_of_ble_eq_true rfl, thaw_intro ?_⟩
        unfold c_session_validOutcome
        simp only [c1, c2, c3, go_sem]
        refine t_loop_intro (fun k : Nat => k ≤ out.length ∧ (out.all vgood = (out.drop k).all vgood)) (fun k => out.length - k) 0 [2, 4, 21, 22, 23, 24, 25, 26, 27, 28, 29, 30, 31, 32, 33] (fun k => [(21, .a (.int .i64 k))]) ⟨by omega, by rfl⟩ (by simp) (fun k => by simp) rfl ?_
        intro k hk0 fr_ hfr
        have hk : k ≤ out.length := hk0.1
        have hall := hk0.2
        clear hk0
        simp only [go_sem] at hfr
        subst hfr
        by_cases hlt : k < out.length
        · have h4 : (k : Int) < (out.length : Int) := by omega
          have ew := wrap1 k out.length hlt hl
          have e := getD_map Vl.row out k hlt
          have er := vl_rw out[k]
          have es := allQ_step vgood out k hlt
          have hd := valV_den out[k] (hf.all _ (List.getElem_mem hlt))
          rw [er] at hd
          simp only [h4, e, er, go_sem]
          refine t_call_intro (hd) ?_
          cases h5 : valV out[k] with
          | false =>
            simp only [go_sem]
            simp only [aresult, ares, go_sem]
            rw [hall, es]; simp [vgood, h5]
          | true =>
            cases h6 : (out[k].kind == 0) with
            | true =>
              simp only [h6, go_sem]
              simp only [aresult, ares, go_sem]
              rw [hall, es]; simp [vgood, h5, h6]
            | false =>
              simp only [h6, ew, go_sem]
              refine t_round (k + 1) ⟨by omega, by rw [hall, es]; simp [vgood, h5, h6]⟩ (by omega) (by simp) rfl rfl (by simp) rfl
        · have h4 : ¬ (k : Int) < (out.length : Int) := by omega
          simp only [h4, go_sem]
          simp only [aresult, ares, go_sem]
          rw [hall, List.drop_eq_nil_of_le (by omega)]; rfl
      · have c3 : (16 : Int) < (out.length : Int) := by omega
        rw [decide_eq_false h3, Bool.false_and]
        refine den_of_body k_session_validOutcome ⟨rfl, Nat.le_of_ble_eq_true rfl, thaw_intro ?_⟩
        unfold c_session_validOutcome
        simp only [c1, c2, c3, go_sem]
        simp only [aresult, ares, go_sem]
    · have c2 : (cd != 0) = true := by simpa using h2
      have c2' : (cd == 0) = false := by simpa using h2
      rw [c2', Bool.false_and, Bool.false_and]
      refine den_of_body k_session_validOutcome ⟨rfl, Nat.le_of_ble_eq_true rfl, thaw_intro ?_⟩
      unfold c_session_validOutcome
      simp only [c1, c2, go_sem]
      simp only [aresult, ares, go_sem]
  · rw [if_neg h1]
    have c1 : (st == 1) = false := by simpa using h1
    cases c2 : (st == 2) with
    | false =>
      rw [Bool.false_and, Bool.false_and, Bool.false_and]
      refine den_of_body k_session_validOutcome ⟨rfl, Nat.le_of_ble_eq_true rfl, thaw_intro ?_⟩
      unfold c_session_validOutcome
      simp only [c1, c2, go_sem]
      simp only [aresult, ares, go_sem]
    | true =>
      rw [Bool.true_and]
      by_cases h3 : 0 ≤ cd
      · rw [decide_eq_true h3, Bool.true_and]
        by_cases h4 : cd ≤ 1009
        · rw [decide_eq_true h4, Bool.true_and]
          by_cases h5 : out.length = 0
          · have c5 : ((out.length : Int) == 0) = true := by simp [h5]
            rw [decide_eq_true h5]
            refine den_of_body k_session_validOutcome ⟨rfl, Nat.le_of_ble_eq_true rfl, thaw_intro ?_⟩
            unfold c_session_validOutcome
            simp only [c1, c2, h3, h4, c5, go_sem]
            simp only [aresult, ares, go_sem]
          · have c5 : ((out.length : Int) == 0) = false := by simp; exact fun q => h5 (by rw [q]; rfl)
            rw [decide_eq_false h5]
            refine den_of_body k_session_validOutcome ⟨rfl, Nat.le_of_ble_eq_true rfl, thaw_intro ?_⟩
            unfold c_session_validOutcome
            simp only [c1, c2, h3, h4, c5, go_sem]
            simp only [aresult, ares, go_sem]
        · rw [decide_eq_false h4, Bool.false_and]
          refine den_of_body k_session_validOutcome ⟨rfl, Nat.le_of_ble_eq_true rfl, thaw_intro ?_⟩
          unfold c_session_validOutcome
          simp only [c1, c2, h3, h4, go_sem]
          simp only [aresult, ares, go_sem]
      · rw [decide_eq_false h3, Bool.false_and, Bool.false_and]
        refine den_of_body k_session_validOutcome ⟨rfl, Nat.le_of_ble_eq_true rfl, thaw_intro ?_⟩
        unfold c_session_validOutcome
        simp only [c1, c2, h3, go_sem]
        simp only [aresult, ares, go_sem]
set_option maxHeartbeats 2000000 in
theorem rvals_den (out : List Vl) (hf : VlsFit out) : PDen Try.prog 62 [.a (.slice 3 (out.map Vl.row))] (.a (.bool (out.all vgood && decide (out.length ≤ 16)))) := by
  have hl := hf.len
  refine den_of_body k_ref37_validValues ⟨rfl, Nat.le_of_ble_eq_true rfl, thaw_intro ?_⟩
  unfold c_ref37_validValues
  simp only [go_sem]
  refine t_loop_intro (fun k : Nat => k ≤ out.length ∧ (out.all vgood = (out.drop k).all vgood)) (fun k => out.length - k) 0 [2, 3, 4, 5, 6, 7, 8, 9, 10, 11, 12, 13, 14, 15, 16, 17, 18, 19, 20, 21, 22, 23] (fun k => [(3, .a (.int .i64 k))]) ⟨by omega, by rfl⟩ (by simp) (fun k => by simp) rfl ?_
  intro k hk0 fr_ hfr
  have hk : k ≤ out.length := hk0.1
  have hall := hk0.2
  clear hk0
  simp only [go_sem] at hfr
  subst hfr
  by_cases hlt : k < out.length
  · have h4 : (k : Int) < (out.length : Int) := by omega
    have ew := wrap1 k out.length hlt hl
    have e := getD_map Vl.row out k hlt
    have er := vl_rw out[k]
    have es := allQ_step vgood out k hlt
    have hd := rvalV_den out[k] (hf.all _ (List.getElem_mem hlt))
    rw [er] at hd
    simp only [h4, e, er, go_sem]
    refine t_call_intro (hd) ?_
    cases h5 : valV out[k] with
    | false =>
      simp only [go_sem]
      simp only [aresult, ares, go_sem]
      rw [hall, es]; simp [vgood, h5]
    | true =>
      cases h6 : (out[k].kind == 0) with
      | true =>
        simp only [h4, e, er, h6, go_sem]
        simp only [aresult, ares, go_sem]
        rw [hall, es]; simp [vgood, h5, h6]
      | false =>
        simp only [h4, e, er, h6, ew, go_sem]
        refine t_round (k + 1) ⟨by omega, by rw [hall, es]; simp [vgood, h5, h6]⟩ (by omega) (by simp) rfl rfl (by simp) rfl
  · have h4 : ¬ (k : Int) < (out.length : Int) := by omega
    simp only [h4, go_sem]
    simp only [aresult, ares, go_sem]
    rw [hall, List.drop_eq_nil_of_le (by omega), List.all_nil, Bool.true_and, show decide ((out.length : Int) ≤ 16) = decide (out.length ≤ 16) from decide_eq_decide.2 (by omega)]
set_option maxHeartbeats 2000000 in
theorem routV_den (st cd : Int) (out : List Vl) (hf : VlsFit out) : PDen Try.prog 41 [.agg [.int .i64 st, .int .i64 cd, .slice 3 (out.map Vl.row)]] (.a (.bool (outV st cd out))) := by
  have hd := rvals_den out hf
  unfold outV
  by_cases h1 : st = 1
  · rw [if_pos h1]
    subst h1
    have c1 : ((1 : Int) == 1) = true := rfl
    cases c2 : (cd == 0) with
    | true =>
      refine den_of_body k_ref37_ValidOutcome ⟨rfl, Nat.le_of_ble_eq_true rfl, thaw_intro ?_⟩
      unfold c_ref37_ValidOutcome
      simp only [c1, c2, go_sem]
      refine t_call_intro (hd) ?_
      simp only [go_sem]
      simp only [aresult, ares, go_sem]
      rw [Bool.true_and, Bool.and_comm]
    | false =>
      refine den_of_body k_ref37_ValidOutcome ⟨rfl, Nat.le_of_ble_eq_true rfl, thaw_intro ?_⟩
      unfold c_ref37_ValidOutcome
      simp only [c1, c2, go_sem]
      simp only [aresult, ares, go_sem]
      rfl
  · rw [if_neg h1]
    have c1 : (st == 1) = false := by simpa using h1
    cases c2 : (st == 2) with
    | false =>
      rw [Bool.false_and, Bool.false_and, Bool.false_and]
      refine den_of_body k_ref37_ValidOutcome ⟨rfl, Nat.le_of_ble_eq_true rfl, thaw_intro ?_⟩
      unfold c_ref37_ValidOutcome
      simp only [c1, c2, go_sem]
      simp only [aresult, ares, go_sem]
    | true =>
      rw [Bool.true_and]
      by_cases h3 : 0 ≤ cd
      · rw [decide_eq_true h3, Bool.true_and]
        by_cases h4 : cd ≤ 1009
        · rw [decide_eq_true h4, Bool.true_and]
          by_cases h5 : out.length = 0
          · have c5 : ((out.length : Int) == 0) = true := by simp [h5]
            rw [decide_eq_true h5]
            refine den_of_body k_ref37_ValidOutcome ⟨rfl, Nat.le_of_ble_eq_true rfl, thaw_intro ?_⟩
            unfold c_ref37_ValidOutcome
            simp only [c1, c2, h3, h4, c5, go_sem]
            simp only [aresult, ares, go_sem]
          · have c5 : ((out.length : Int) == 0) = false := by simp; exact fun q => h5 (by rw [q]; rfl)
            rw [decide_eq_false h5]
            refine den_of_body k_ref37_ValidOutcome ⟨rfl, Nat.le_of_ble_eq_true rfl, thaw_intro ?_⟩
            unfold c_ref37_ValidOutcome
            simp only [c1, c2, h3, h4, c5, go_sem]
            simp only [aresult, ares, go_sem]
        · rw [decide_eq_false h4, Bool.false_and]
          refine den_of_body k_ref37_ValidOutcome ⟨rfl, Nat.le_of_ble_eq_true rfl, thaw_intro ?_⟩
          unfold c_ref37_ValidOutcome
          simp only [c1, c2, h3, h4, go_sem]
          simp only [aresult, ares, go_sem]
      · rw [decide_eq_false h3, Bool.false_and, Bool.false_and]
        refine den_of_body k_ref37_ValidOutcome ⟨rfl, Nat.le_of_ble_eq_true rfl, thaw_intro ?_⟩
        unfold c_ref37_ValidOutcome
        simp only [c1, c2, h3, go_sem]
        simp only [aresult, ares, go_sem]
end Go.Proofs.Ytbiongfnbbnndaa
