/- Chapter 37: the law SessionParts. -/
import Derived.Test.YtbiongfnbbnndaaQj
set_option linter.unusedSimpArgs false
set_option linter.unusedVariables false
namespace Go.Proofs.Ytbiongfnbbnndaa
open Go Ab Go.RowKit
set_option maxRecDepth 100000
attribute [local irreducible] awp aops aop asoft aeff aloop acall acallI acallT
attribute [local go_sem] Vl.row sRow fpRow Req.row Rpl.row Ses.row

set_option maxHeartbeats 8000000 in
theorem SessionParts_den (l : List Ses) (hl : Sess.full l) (p f : List Req) (hp : ReqsOk p) (hf : ReqsOk f) (hpl : p.length ≤ 1048576) (hfl : f.length ≤ 1048576) :
    PDen Try.prog 6 [.a (.slice 3 (l.map Ses.row)), .agg [.slice 8 (p.map Req.row), .slice 8 (f.map Req.row)]] (.a (.bool true)) := by
  have d1 := filter_den l hl.bulk p f hp.len hf
  have dv := sessV_den l hl.fit
  have z0 : ((((0 : Nat) : Int)) == 0) = true := rfl
  unfold fltA at d1
  cases h : sessV l with
  | false =>
    rw [h, if_neg (by simp)] at d1
    rw [h] at dv
    refine den_of_body k_law37_SessionParts ⟨rfl, Nat.le_of_ble_eq_true rfl, thaw_intro ?_⟩
    unfold c_law37_SessionParts
    simp only [go_sem]
    refine t_call_intro (d1) ?_
    simp only [go_sem]
    refine t_call_intro (dv) ?_
    simp only [z0, go_sem]
    refine t_call_intro (examples_den) ?_
    simp only [go_sem]
    simp only [aresult, ares, go_sem]
  | true =>
    rw [h, if_pos rfl] at d1
    rw [h] at dv
    have hn := filtN_sum l p f f.length (Nat.le_refl _)
    have hm := filtN_mem l p f f.length (Nat.le_refl _)
    have hP := filtN_parts h hpl hfl f.length (Nat.le_refl _)
    generalize filtN l p f f.length = x at d1 hn hP hm
    have w1 : IntKind.i64.wrap (((x.a.length : Nat) : Int) + ((x.b.length : Nat) : Int)) = ((x.a.length : Nat) : Int) + ((x.b.length : Nat) : Int) := by rw [IntKind.wrap_i64]; omega
    have w2 : IntKind.i64.wrap (((x.a.length : Nat) : Int) + ((x.b.length : Nat) : Int) + ((x.g.length : Nat) : Int)) = ((x.a.length : Nat) : Int) + ((x.b.length : Nat) : Int) + ((x.g.length : Nat) : Int) := by rw [IntKind.wrap_i64]; omega
    have g1 : ¬ ((f.length : Nat) : Int) < ((x.a.length : Nat) : Int) + ((x.b.length : Nat) : Int) + ((x.g.length : Nat) : Int) := by omega
    refine den_of_body k_law37_SessionParts ⟨rfl, Nat.le_of_ble_eq_true rfl, thaw_intro ?_⟩
    unfold c_law37_SessionParts
    simp only [go_sem]
    refine t_call_intro (d1) ?_
    simp only [go_sem]
    refine t_call_intro (dv) ?_
    simp only [w1, w2, g1, go_sem]
    refine t_gate_intro (by omega) ?_
    simp only [go_sem]
    refine t_loopO_intro [] (fun k : Nat => k ≤ x.a.length) (fun k => x.a.length - k) 0 [4, 8, 9, 58, 59, 60, 61, 62, 63, 64, 65, 66, 67, 68, 69, 70, 71, 72, 73, 74, 75, 76, 77, 78, 79, 80, 81, 82, 83, 84] (fun k => [(8, .own 0), (9, .a (.int .i64 k)), (14, .any), (20, .any), (57, .any)]) (fun k => [[.a (.slice 8 (p.map Req.row)), .a (.slice 8 (f.map Req.row))]]) (fun k => [⟨35, 8, (p ++ x.a.take k).map Req.row, false⟩]) (by omega) (by simp) (by simp) (by simp) (by simp) (fun k => by simp) (fun k => by simp) (fun k => by simp) ?_
    intro k hk st_ hst
    simp only [go_sem] at hst
    subst hst
    by_cases hlt : k < x.a.length
    · have g2 : (k : Int) < (x.a.length : Int) := by omega
      have ew := wrap1 k x.a.length hlt (by omega)
      have e := getD_map Req.row x.a k hlt
      have er := req_rw x.a[k]
      have hpt := hP.a k hlt
      have n1 : (x.a[k].sq != expI l (p ++ x.a.take k) x.a[k].cl) = false := by rw [← hpt]; simp
      have htk : (x.a.take k).length = k := List.length_take_of_le (by omega)
      have he := exp_den l hl.fit (p ++ x.a.take k) (by rw [List.length_append]; omega) x.a[k].cl
      have erX : List.take k (x.a.map Req.row) ++ [[.int .i64 x.a[k].cl, .int .i64 x.a[k].sq, .str x.a[k].pr, .slice 3 (x.a[k].args.map Vl.row), .bool x.a[k].dc, .bool x.a[k].al, .slice 1 (x.a[k].rd.map sRow), .slice 1 (x.a[k].wt.map sRow)]] = List.take (k + 1) (x.a.map Req.row) := by
        rw [List.take_succ_eq_append_getElem (by rw [List.length_map]; exact hlt), List.getElem_map]; rfl
      simp only [g2, e, er, go_sem]
      refine t_call_intro he ?_
      simp only [n1, g2, e, er, htk, go_sem]
      refine t_gate_intro (by omega) ?_
      simp only [ew, go_sem]
      refine t_roundO (k + 1) (by omega) (by omega) (by first | (simp; done) | simp [erX]) (by first | (simp; done) | simp [erX]) (by first | (simp; done) | simp [erX]) (by first | (simp; done) | simp [erX]) (by first | (simp; done) | simp [erX])
    · have g2 : ¬ (k : Int) < (x.a.length : Int) := by omega
      simp only [g2, go_sem]
      refine t_loopO_intro [] (fun j : Nat => j ≤ x.b.length) (fun j => x.b.length - j) 0 [4, 10, 11, 12, 85, 86, 87, 88, 89, 90, 91, 92, 93, 94, 95, 96, 97, 98, 99, 100, 101, 102, 103, 104, 105, 106, 107, 108, 109, 110, 111, 112, 113, 114, 115, 116] (fun j => [(10, .a (.int .i64 j))]) (fun j => [[.a (.slice 8 (p.map Req.row)), .a (.slice 8 (f.map Req.row))]]) (fun j => [⟨35, 8, (p ++ x.a.take k).map Req.row, false⟩]) (by omega) (by simp) (by simp) (by simp) (by simp) (fun j => by simp) (fun j => by simp) (fun j => by simp) ?_
      intro j hkj st_ hst
      simp only [go_sem] at hst
      subst hst
      by_cases hltj : j < x.b.length
      · have gj : (j : Int) < (x.b.length : Int) := by omega
        have ewj := wrap1 j x.b.length hltj (by omega)
        have ej := getD_map Rpl.row x.b j hltj
        have ejr := rpl_rw x.b[j]
        have hlk := lookup_den l hl.bulk x.b[j].cl x.b[j].sq
        rw [hP.b _ (List.getElem_mem hltj), rpl_rw] at hlk
        have n0 : ((0 : Int) != 0) = false := rfl
        have hrr := reply_refl x.b[j] (by obtain ⟨s, hs, hr⟩ := hm.b _ (List.getElem_mem hltj); exact ((hl.all s hs).all _ hr).out.fit.len)
        rw [rpl_rw] at hrr
        simp only [gj, ej, ejr, go_sem]
        refine t_call_intro (hlk) ?_
        simp only [n0, gj, ej, ejr, go_sem]
        refine t_call_intro (hrr) ?_
        simp only [ewj, go_sem]
        refine t_roundO (j + 1) (by omega) (by omega) (by simp) (by simp) (by simp) (by simp) (by simp)
      · have gj : ¬ (j : Int) < (x.b.length : Int) := by omega
        simp only [gj, go_sem]
        refine t_loopO_intro [] (fun i : Nat => i ≤ x.g.length) (fun i => x.g.length - i) 0 [4, 13, 117, 118, 119, 120, 121, 122, 123, 124, 125, 126, 127, 128, 129, 130, 131, 132, 133, 134, 135, 136, 137] (fun i => [(13, .a (.int .i64 i))]) (fun i => [[.a (.slice 8 (p.map Req.row)), .a (.slice 8 (f.map Req.row))]]) (fun i => [⟨35, 8, (p ++ x.a.take k).map Req.row, false⟩]) (by omega) (by simp) (by simp) (by simp) (by simp) (fun i => by simp) (fun i => by simp) (fun i => by simp) ?_
        intro i hki st_ hst
        simp only [go_sem] at hst
        subst hst
        by_cases hlti : i < x.g.length
        · have gi : (i : Int) < (x.g.length : Int) := by omega
          have ewi := wrap1 i x.g.length hlti (by omega)
          have ei := getD_map Req.row x.g i hlti
          have eir := req_rw x.g[i]
          have hg := hP.g _ (List.getElem_mem hlti)
          have ng : ¬ x.g[i].sq ≤ expI l p x.g[i].cl := by omega
          have he := exp_den l hl.fit p (by omega) x.g[i].cl
          simp only [gi, ei, eir, go_sem]
          refine t_call_intro (he) ?_
          simp only [ng, ewi, go_sem]
          refine t_roundO (i + 1) (by omega) (by omega) (by simp) (by simp) (by simp) (by simp) (by simp)
        · have gi : ¬ (i : Int) < (x.g.length : Int) := by omega
          simp only [gi, go_sem]
          refine t_call_intro (examples_den) ?_
          simp only [go_sem]
          simp only [aresult, ares, go_sem]
end Go.Proofs.Ytbiongfnbbnndaa
