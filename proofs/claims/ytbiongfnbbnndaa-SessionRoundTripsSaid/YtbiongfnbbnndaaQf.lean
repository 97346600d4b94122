/- Chapter 37: Filter of the program and of the reference. -/
import Derived.Test.YtbiongfnbbnndaaQe
set_option linter.unusedSimpArgs false
set_option linter.unusedVariables false
namespace Go.Proofs.Ytbiongfnbbnndaa
open Go Ab Go.RowKit
set_option maxRecDepth 100000
attribute [local irreducible] awp aops aop asoft aeff aloop acall acallI acallT
attribute [local go_sem] Vl.row sRow fpRow Req.row Rpl.row Ses.row

structure Flt where
  a : List Req
  b : List Rpl
  g : List Req
def wantI (l : List Ses) (pend acc : List Req) (c : Int) : Int := IntKind.i64.wrap (IntKind.i64.wrap (nextI l c + (cntR pend c : Nat)) + (cntR acc c : Nat))
def fstep (l : List Ses) (pend : List Req) (x : Flt) (r : Req) : Flt :=
  if r.sq = wantI l pend x.a r.cl then ⟨x.a ++ [r], x.b, x.g⟩
  else if r.sq < nextI l r.cl then (if (lookP l r.cl r.sq).2 = 0 then ⟨x.a, x.b ++ [(lookP l r.cl r.sq).1], x.g⟩ else x)
  else if wantI l pend x.a r.cl < r.sq then ⟨x.a, x.b, x.g ++ [r]⟩ else x
def filtN (l : List Ses) (pend fresh : List Req) (k : Nat) : Flt := (fresh.take k).foldl (fstep l pend) ⟨[], [], []⟩
theorem filtN_zero (l : List Ses) (pend fresh : List Req) : filtN l pend fresh 0 = ⟨[], [], []⟩ := by simp [filtN]
theorem filtN_step (l : List Ses) (pend fresh : List Req) (k : Nat) (h : k < fresh.length) : filtN l pend fresh (k + 1) = fstep l pend (filtN l pend fresh k) fresh[k] := by
  unfold filtN
  rw [List.take_succ_eq_append_getElem h, List.foldl_append]; rfl
theorem fstep_len (l : List Ses) (pend : List Req) (x : Flt) (r : Req) : (fstep l pend x r).a.length ≤ x.a.length + 1 ∧ (fstep l pend x r).b.length ≤ x.b.length + 1 ∧ (fstep l pend x r).g.length ≤ x.g.length + 1 := by
  unfold fstep
  split
  · simp
  · split
    · split <;> simp
    · split <;> simp
theorem filtN_len (l : List Ses) (pend fresh : List Req) : ∀ k, k ≤ fresh.length → (filtN l pend fresh k).a.length ≤ k ∧ (filtN l pend fresh k).b.length ≤ k ∧ (filtN l pend fresh k).g.length ≤ k
  | 0, _ => by rw [filtN_zero]; exact ⟨Nat.le_refl _, Nat.le_refl _, Nat.le_refl _⟩
  | k + 1, h => by
    have h1 := filtN_len l pend fresh k (by omega)
    rw [filtN_step l pend fresh k (by omega)]
    have h2 := fstep_len l pend (filtN l pend fresh k) fresh[k]
    omega
theorem gateF (x n : Nat) (h : x < n) (hn : n ≤ 1172812402926) : (x + 1 + (x + 1) / 4 + 192) * 120 ≤ 281474976710656 ∧ x ≤ 9223372036854775806 := by
  have h1 : x + 1 + (x + 1) / 4 + 192 ≤ 1466015503849 := by omega
  exact ⟨Nat.le_trans (Nat.mul_le_mul_right 120 h1) (by decide), by omega⟩
theorem gateG (x n : Nat) (h : x < n) (hn : n ≤ 1172812402926) : (x + 1 + (x + 1) / 4 + 192) * 56 ≤ 281474976710656 ∧ x ≤ 9223372036854775806 := by
  have h1 : x + 1 + (x + 1) / 4 + 192 ≤ 1466015503849 := by omega
  exact ⟨Nat.le_trans (Nat.mul_le_mul_right 56 h1) (by decide), by omega⟩
structure ReqsOk (l : List Req) : Prop where
  len : l.length ≤ 1172812402926
  all : ∀ r ∈ l, r.bulk
def fltA (l : List Ses) (pend fresh : List Req) : AV := if sessV l = true then .tup [.a (.slice 8 ((filtN l pend fresh fresh.length).a.map Req.row)), .a (.slice 5 ((filtN l pend fresh fresh.length).b.map Rpl.row)), .a (.slice 8 ((filtN l pend fresh fresh.length).g.map Req.row))] else .tup [.a (.slice 8 []), .a (.slice 5 []), .a (.slice 8 [])]
theorem nil3_le : VLe (.tup [.a .nils, .a .nils, .a .nils]) (.tup [.a (.slice 8 []), .a (.slice 5 []), .a (.slice 8 [])]) := VLe.tup ⟨VLe.a (RLe.nils 8), VLe.a (RLe.nils 5), VLe.a (RLe.nils 8), trivial⟩
set_option maxHeartbeats 8000000 in
theorem filter_den (l : List Ses) (hb : SesBulk l) (pend fresh : List Req) (hp : pend.length ≤ 1172812402926) (hr : ReqsOk fresh) :
    PDen Try.prog 9 [.a (.slice 3 (l.map Ses.row)), .a (.slice 8 (pend.map Req.row)), .a (.slice 8 (fresh.map Req.row))] (fltA l pend fresh) := by
  have hf := hb.fit
  have hv := sessV_den l hf
  unfold fltA
  cases h : sessV l with
  | false =>
    rw [h] at hv
    rw [if_neg (by simp)]
    refine PDen.le ?_ nil3_le
    refine den_of_body k_session_Filter ⟨rfl, Nat.le_of_ble_eq_true rfl, thaw_intro ?_⟩
    unfold c_session_Filter
    simp only [go_sem]
    refine t_call_intro (hv) ?_
    simp only [go_sem]
    simp only [aresult, ares, go_sem]
  | true =>
    rw [h] at hv
    rw [if_pos rfl]
    have ha := (sessV_asc h).1
    have ez := filtN_zero l pend fresh
    have hrl := hr.len
    refine den_of_body k_session_Filter ⟨rfl, Nat.le_of_ble_eq_true rfl, thaw_intro ?_⟩
    unfold c_session_Filter
    simp only [go_sem]
    refine t_call_intro (hv) ?_
    simp only [go_sem]
    refine t_loopO_intro [.slot 9 35 8, .slot 10 35 8, .slot 11 40 5] (fun k : Nat => k ≤ fresh.length) (fun k => fresh.length - k) 0 [9, 10, 11, 13, 14, 15, 16, 17, 23, 24, 25, 26, 27, 28, 29, 30, 31, 32, 33, 34, 35, 36, 37, 38, 39, 40, 41, 42, 43, 44, 45, 46, 47, 48, 49, 50, 51, 52, 53, 54, 55, 56, 57, 58, 59, 60, 61, 62, 63, 64, 65, 66, 67, 68, 69, 70, 71, 72, 73, 74, 75, 76, 77, 78, 79, 80, 81, 82] (fun k => [(9, .own 0), (10, .own 1), (11, .own 2), (23, .a (.int .i64 k))]) (fun k => []) (fun k => [⟨35, 8, (filtN l pend fresh k).a.map Req.row, false⟩, ⟨35, 8, (filtN l pend fresh k).g.map Req.row, false⟩, ⟨40, 5, (filtN l pend fresh k).b.map Rpl.row, false⟩]) (by omega) (by simp) (by first | (simp; done) | simp [ez]) (by first | (simp; done) | simp [ez]) (by first | (simp; done) | simp [ez]) (fun k => by first | (simp; done) | simp [ez]) (fun k => by first | (simp; done) | simp [ez]) (fun k => by first | (simp; done) | simp [ez]) ?_
    intro k hk st_ hst
    simp only [go_sem] at hst
    subst hst
    by_cases hlt : k < fresh.length
    · have g1 : (k : Int) < (fresh.length : Int) := by omega
      have ew := wrap1 k fresh.length hlt (by omega)
      have e := getD_map Req.row fresh k hlt
      have er := req_rw fresh[k]
      have es := filtN_step l pend fresh k hlt
      have hln := filtN_len l pend fresh k (by omega)
      have hcp := copied_den fresh[k] (hr.all _ (List.getElem_mem hlt))
      have hnx := next_den l fresh[k].cl hf.len ha
      have hw1 := waiting_den pend fresh[k].cl (by omega)
      generalize hx : filtN l pend fresh k = X at *
      have hw2 := waiting_den X.a fresh[k].cl (by omega)
      have hlk := lookup_den l hb fresh[k].cl fresh[k].sq
      have erl := rpl_rw (lookP l fresh[k].cl fresh[k].sq).1
      rw [er] at hcp
      rw [erl] at hlk
      unfold fstep wantI at es
      generalize fresh[k] = r at *
      simp only [g1, e, er, go_sem]
      refine t_call_intro (hnx) ?_
      simp only [go_sem]
      refine t_call_intro (hw1) ?_
      simp only [go_sem]
      refine t_call_intro (hw2) ?_
      simp only [go_sem]
      generalize hW : IntKind.i64.wrap (IntKind.i64.wrap (nextI l r.cl + ((cntR pend r.cl : Nat) : Int)) + ((cntR X.a r.cl : Nat) : Int)) = W at *
      by_cases c1 : r.sq = W
      · have c1' : (r.sq == W) = true := by simpa using c1
        rw [if_pos c1] at es
        simp only [c1', go_sem]
        refine t_call_intro (hcp) ?_
        simp only [go_sem]
        refine t_gate_intro (by exact gateF _ _ (Nat.lt_of_le_of_lt hln.1 hlt) hrl) ?_
        simp only [ew, go_sem]
        refine t_roundO (k + 1) (by omega) (by omega) (by first | (simp; done) | simp [es, Req.row]) (by first | (simp; done) | simp [es, Req.row]) (by first | (simp; done) | simp [es, Req.row]) (by first | (simp; done) | simp [es, Req.row]) (by first | (simp; done) | simp [es, Req.row])
      · have c1' : (r.sq == W) = false := by simpa using c1
        rw [if_neg c1] at es
        by_cases c2 : r.sq < nextI l r.cl
        · rw [if_pos c2] at es
          simp only [c1', c2, go_sem]
          refine t_call_intro (hlk) ?_
          simp only [go_sem]
          by_cases c3 : (lookP l r.cl r.sq).2 = 0
          · have c3' : ((lookP l r.cl r.sq).2 == 0) = true := by simpa using c3
            rw [if_pos c3] at es
            simp only [c3', go_sem]
            refine t_gate_intro (by exact gateG _ _ (Nat.lt_of_le_of_lt hln.2.1 hlt) hrl) ?_
            simp only [ew, go_sem]
            refine t_roundO (k + 1) (by omega) (by omega) (by first | (simp; done) | simp [es, Rpl.row]) (by first | (simp; done) | simp [es, Rpl.row]) (by first | (simp; done) | simp [es, Rpl.row]) (by first | (simp; done) | simp [es, Rpl.row]) (by first | (simp; done) | simp [es, Rpl.row])
          · have c3' : ((lookP l r.cl r.sq).2 == 0) = false := by simpa using c3
            rw [if_neg c3] at es
            simp only [c3', ew, go_sem]
            refine t_roundO (k + 1) (by omega) (by omega) (by first | (simp; done) | simp [es]) (by first | (simp; done) | simp [es]) (by first | (simp; done) | simp [es]) (by first | (simp; done) | simp [es]) (by first | (simp; done) | simp [es])
        · rw [if_neg c2] at es
          by_cases c3 : W < r.sq
          · rw [if_pos c3] at es
            simp only [c1', c2, c3, go_sem]
            refine t_call_intro (hcp) ?_
            simp only [go_sem]
            refine t_gate_intro (by exact gateF _ _ (Nat.lt_of_le_of_lt hln.2.2 hlt) hrl) ?_
            simp only [ew, go_sem]
            refine t_roundO (k + 1) (by omega) (by omega) (by first | (simp; done) | simp [es, Req.row]) (by first | (simp; done) | simp [es, Req.row]) (by first | (simp; done) | simp [es, Req.row]) (by first | (simp; done) | simp [es, Req.row]) (by first | (simp; done) | simp [es, Req.row])
          · rw [if_neg c3] at es
            simp only [c1', c2, c3, ew, go_sem]
            refine t_roundO (k + 1) (by omega) (by omega) (by first | (simp; done) | simp [es]) (by first | (simp; done) | simp [es]) (by first | (simp; done) | simp [es]) (by first | (simp; done) | simp [es]) (by first | (simp; done) | simp [es])
    · have g1 : ¬ (k : Int) < (fresh.length : Int) := by omega
      have ek : k = fresh.length := by omega
      subst ek
      simp only [g1, go_sem]
      simp only [aresult, ares, go_sem]
set_option maxHeartbeats 8000000 in
theorem rfilter_den (l : List Ses) (hb : SesBulk l) (pend fresh : List Req) (hp : pend.length ≤ 1172812402926) (hr : ReqsOk fresh) :
    PDen Try.prog 16 [.a (.slice 3 (l.map Ses.row)), .a (.slice 8 (pend.map Req.row)), .a (.slice 8 (fresh.map Req.row))] (fltA l pend fresh) := by
  have hf := hb.fit
  have hv := rsessV_den l hf
  unfold fltA
  cases h : sessV l with
  | false =>
    rw [h] at hv
    rw [if_neg (by simp)]
    refine PDen.le ?_ nil3_le
    refine den_of_body k_ref37_Filter ⟨rfl, Nat.le_of_ble_eq_true rfl, thaw_intro ?_⟩
    unfold c_ref37_Filter
    simp only [go_sem]
    refine t_call_intro (hv) ?_
    simp only [go_sem]
    simp only [aresult, ares, go_sem]
  | true =>
    rw [h] at hv
    rw [if_pos rfl]
    have ha := (sessV_asc h).1
    have ez := filtN_zero l pend fresh
    have hrl := hr.len
    refine den_of_body k_ref37_Filter ⟨rfl, Nat.le_of_ble_eq_true rfl, thaw_intro ?_⟩
    unfold c_ref37_Filter
    simp only [go_sem]
    refine t_call_intro (hv) ?_
    simp only [go_sem]
    refine t_loopO_intro [.slot 9 35 8, .slot 10 35 8, .slot 11 40 5] (fun k : Nat => k ≤ fresh.length) (fun k => fresh.length - k) 0 [9, 10, 11, 12, 13, 14, 15, 16, 20, 21, 22, 23, 24, 25, 26, 27, 28, 29, 30, 31, 32, 33, 34, 35, 36, 37, 38, 39, 40, 41, 42, 43, 44, 45, 46, 47, 48, 49, 50, 51, 52, 53, 54, 55, 56, 57, 58, 59, 60, 61, 62, 63, 64, 65, 66, 67, 68, 69, 70, 71, 72, 73, 74, 75, 76, 77, 78, 79, 80, 81, 82, 83] (fun k => [(9, .own 0), (10, .own 1), (11, .own 2), (12, .a (.int .i64 k))]) (fun k => []) (fun k => [⟨35, 8, (filtN l pend fresh k).a.map Req.row, false⟩, ⟨35, 8, (filtN l pend fresh k).g.map Req.row, false⟩, ⟨40, 5, (filtN l pend fresh k).b.map Rpl.row, false⟩]) (by omega) (by simp) (by first | (simp; done) | simp [ez]) (by first | (simp; done) | simp [ez]) (by first | (simp; done) | simp [ez]) (fun k => by first | (simp; done) | simp [ez]) (fun k => by first | (simp; done) | simp [ez]) (fun k => by first | (simp; done) | simp [ez]) ?_
    intro k hk st_ hst
    simp only [go_sem] at hst
    subst hst
    by_cases hlt : k < fresh.length
    · have g1 : (k : Int) < (fresh.length : Int) := by omega
      have ew := wrap1 k fresh.length hlt (by omega)
      have e := getD_map Req.row fresh k hlt
      have er := req_rw fresh[k]
      have es := filtN_step l pend fresh k hlt
      have hln := filtN_len l pend fresh k (by omega)
      have hnx := rfindC_den l fresh[k].cl hf.len
      have en := nextI_fnd l fresh[k].cl
      rw [ses_rw] at hnx
      have hw1 := rcount_den pend fresh[k].cl (by omega)
      generalize hx : filtN l pend fresh k = X at *
      have hw2 := rcount_den X.a fresh[k].cl (by omega)
      have hlk := rlookup_den l hf fresh[k].cl fresh[k].sq
      have erl := rpl_rw (lookP l fresh[k].cl fresh[k].sq).1
      rw [erl] at hlk
      unfold fstep wantI at es
      generalize fresh[k] = r at *
      simp only [g1, e, er, go_sem]
      refine t_call_intro (hnx) ?_
      simp only [go_sem]
      refine t_call_intro (hw1) ?_
      simp only [en, go_sem]
      refine t_call_intro (hw2) ?_
      simp only [go_sem]
      generalize hW : IntKind.i64.wrap (IntKind.i64.wrap (nextI l r.cl + ((cntR pend r.cl : Nat) : Int)) + ((cntR X.a r.cl : Nat) : Int)) = W at *
      by_cases c1 : r.sq = W
      · have c1' : (r.sq == W) = true := by simpa using c1
        rw [if_pos c1] at es
        simp only [c1', go_sem]
        refine t_gate_intro (by exact gateF _ _ (Nat.lt_of_le_of_lt hln.1 hlt) hrl) ?_
        simp only [ew, go_sem]
        refine t_roundO (k + 1) (by omega) (by omega) (by first | (simp; done) | simp [es, Req.row]) (by first | (simp; done) | simp [es, Req.row]) (by first | (simp; done) | simp [es, Req.row]) (by first | (simp; done) | simp [es, Req.row]) (by first | (simp; done) | simp [es, Req.row])
      · have c1' : (r.sq == W) = false := by simpa using c1
        rw [if_neg c1] at es
        by_cases c2 : r.sq < nextI l r.cl
        · rw [if_pos c2] at es
          simp only [c1', go_sem]
          refine t_call_intro (hnx) ?_
          simp only [en, c2, go_sem]
          refine t_call_intro (hlk) ?_
          simp only [go_sem]
          by_cases c3 : (lookP l r.cl r.sq).2 = 0
          · have c3' : ((lookP l r.cl r.sq).2 == 0) = true := by simpa using c3
            rw [if_pos c3] at es
            simp only [c3', go_sem]
            refine t_gate_intro (by exact gateG _ _ (Nat.lt_of_le_of_lt hln.2.1 hlt) hrl) ?_
            simp only [ew, go_sem]
            refine t_roundO (k + 1) (by omega) (by omega) (by first | (simp; done) | simp [es, Rpl.row]) (by first | (simp; done) | simp [es, Rpl.row]) (by first | (simp; done) | simp [es, Rpl.row]) (by first | (simp; done) | simp [es, Rpl.row]) (by first | (simp; done) | simp [es, Rpl.row])
          · have c3' : ((lookP l r.cl r.sq).2 == 0) = false := by simpa using c3
            rw [if_neg c3] at es
            simp only [c3', ew, go_sem]
            refine t_roundO (k + 1) (by omega) (by omega) (by first | (simp; done) | simp [es]) (by first | (simp; done) | simp [es]) (by first | (simp; done) | simp [es]) (by first | (simp; done) | simp [es]) (by first | (simp; done) | simp [es])
        · rw [if_neg c2] at es
          by_cases c3 : W < r.sq
          · rw [if_pos c3] at es
            simp only [c1', go_sem]
            refine t_call_intro (hnx) ?_
            simp only [en, c2, c3, go_sem]
            refine t_gate_intro (by exact gateF _ _ (Nat.lt_of_le_of_lt hln.2.2 hlt) hrl) ?_
            simp only [ew, go_sem]
            refine t_roundO (k + 1) (by omega) (by omega) (by first | (simp; done) | simp [es, Req.row]) (by first | (simp; done) | simp [es, Req.row]) (by first | (simp; done) | simp [es, Req.row]) (by first | (simp; done) | simp [es, Req.row]) (by first | (simp; done) | simp [es, Req.row])
          · rw [if_neg c3] at es
            simp only [c1', go_sem]
            refine t_call_intro (hnx) ?_
            simp only [en, c2, c3, ew, go_sem]
            refine t_roundO (k + 1) (by omega) (by omega) (by first | (simp; done) | simp [es]) (by first | (simp; done) | simp [es]) (by first | (simp; done) | simp [es]) (by first | (simp; done) | simp [es]) (by first | (simp; done) | simp [es])
    · have g1 : ¬ (k : Int) < (fresh.length : Int) := by omega
      have ek : k = fresh.length := by omega
      subst ek
      simp only [g1, go_sem]
      simp only [aresult, ares, go_sem]
end Go.Proofs.Ytbiongfnbbnndaa
