/- Chapter 37: the law SessionFilters. -/
import Derived.Test.YtbiongfnbbnndaaQh
set_option linter.unusedSimpArgs false
set_option linter.unusedVariables false
namespace Go.Proofs.Ytbiongfnbbnndaa
open Go Ab Go.RowKit
set_option maxRecDepth 100000
attribute [local irreducible] awp aops aop asoft aeff aloop acall acallI acallT
attribute [local go_sem] Vl.row sRow fpRow Req.row Rpl.row Ses.row

set_option maxHeartbeats 4000000 in
theorem SessionFilters_den (l : List Ses) (hl : Sess.full l) (p f : List Req) (hp : ReqsOk p) (hf : ReqsOk f) (c : Int) :
    PDen Try.prog 4 [.a (.slice 3 (l.map Ses.row)), .agg [.slice 8 (p.map Req.row), .slice 8 (f.map Req.row)], .a (.int .i64 c)] (.a (.bool true)) := by
  have d1 := filter_den l hl.bulk p f hp.len hf
  have d2 := rfilter_den l hl.bulk p f hp.len hf
  have hpl := hp.len
  have d3 := exp_den l hl.fit p (by omega) c
  have d4 := rexp_den l hl.fit p (by omega) c
  have n1 : (expI l p c == expI l p c) = true := by simp
  unfold fltA at d1 d2
  cases h : sessV l with
  | false =>
    rw [h, if_neg (by simp)] at d1 d2
    have s1 := reqs_refl [] (by decide) (fun r h => by simp at h)
    have s2 := replies_refl [] (by decide) (fun r h => by simp at h)
    refine den_of_body k_law37_SessionFilters ⟨rfl, Nat.le_of_ble_eq_true rfl, thaw_intro ?_⟩
    unfold c_law37_SessionFilters
    simp only [go_sem]
    refine t_call_intro (d1) ?_
    simp only [go_sem]
    refine t_call_intro (d2) ?_
    simp only [go_sem]
    refine t_call_intro (s1) ?_
    simp only [go_sem]
    refine t_call_intro (s2) ?_
    simp only [go_sem]
    refine t_call_intro (s1) ?_
    simp only [go_sem]
    refine t_call_intro (d3) ?_
    simp only [go_sem]
    refine t_call_intro (d4) ?_
    simp only [n1, go_sem]
    refine t_call_intro (examples_den) ?_
    simp only [go_sem]
    simp only [aresult, ares, go_sem]
  | true =>
    rw [h, if_pos rfl] at d1 d2
    have hm := filtN_mem l p f f.length (Nat.le_refl _)
    have hn := filtN_len l p f f.length (Nat.le_refl _)
    have hfl := hf.len
    generalize filtN l p f f.length = x at d1 d2 hm hn
    have s1 := reqs_refl x.a (by omega) (fun r hr => (hf.all r (hm.a r hr)).fits)
    have s2 := replies_refl x.b (by omega) (fun r hr => by
      obtain ⟨s, hs, hr⟩ := hm.b r hr
      exact ((hl.all s hs).all r hr).out.fit.len)
    have s3 := reqs_refl x.g (by omega) (fun r hr => (hf.all r (hm.g r hr)).fits)
    refine den_of_body k_law37_SessionFilters ⟨rfl, Nat.le_of_ble_eq_true rfl, thaw_intro ?_⟩
    unfold c_law37_SessionFilters
    simp only [go_sem]
    refine t_call_intro (d1) ?_
    simp only [go_sem]
    refine t_call_intro (d2) ?_
    simp only [go_sem]
    refine t_call_intro (s1) ?_
    simp only [go_sem]
    refine t_call_intro (s2) ?_
    simp only [go_sem]
    refine t_call_intro (s3) ?_
    simp only [go_sem]
    refine t_call_intro (d3) ?_
    simp only [go_sem]
    refine t_call_intro (d4) ?_
    simp only [n1, go_sem]
    refine t_call_intro (examples_den) ?_
    simp only [go_sem]
    simp only [aresult, ares, go_sem]
end Go.Proofs.Ytbiongfnbbnndaa
