/- Chapter 37: Record; what it refuses, and a new client. -/
import Derived.Test.YtbiongfnbbnndaaQh
import Derived.Test.YtbiongfnbbnndaaCody
set_option linter.unusedSimpArgs false
set_option linter.unusedVariables false
namespace Go.Proofs.Ytbiongfnbbnndaa
open Go Ab Go.RowKit
set_option maxRecDepth 100000
attribute [local irreducible] awp aops aop asoft aeff aloop acall acallI acallT
attribute [local go_sem] Vl.row sRow fpRow Req.row Rpl.row Ses.row

/-- A reply that Record looks at. -/
def recOk (r : Rpl) : Bool := decide (1 ≤ r.cl) && decide (r.cl ≤ 32) && outV r.st r.cd r.out
def last8 (rs : List Rpl) : List Rpl := rs.drop (rs.length - 8)
def recL (l : List Ses) (r : Rpl) : List Ses :=
  if foundC l (loC r.cl l) r.cl = true then l.set (loC r.cl l) ⟨r.cl, r.sq + 1, last8 ((l.getD (loC r.cl l) ⟨0, 0, []⟩).rs ++ [r])⟩
  else l.take (loC r.cl l) ++ [⟨r.cl, r.sq + 1, [r]⟩] ++ l.drop (loC r.cl l)
def recP (l : List Ses) (r : Rpl) : List Ses × Int :=
  if (sessV l && recOk r) = true then if r.sq ≠ nextI l r.cl then ([], 16) else if r.sq = 1099511627776 then ([], 2) else (recL l r, 0) else ([], 1)
theorem rec_le (e : Int) : VLe (.tup [.a .nils, .a (.int .i64 e)]) (.tup [.a (.slice 3 (([] : List Ses).map Ses.row)), .a (.int .i64 e)]) :=
  VLe.tup ⟨VLe.a (RLe.nils 3), VLe.refl _, trivial⟩
set_option maxHeartbeats 8000000 in
theorem record_bad (l : List Ses) (hb : SesBulk l) (r : Rpl) (hr : VlsFit r.out) (e : Int) (he : e ≠ 0) (h : recP l r = ([], e)) :
    PDen Try.prog 13 [.a (.slice 3 (l.map Ses.row)), .agg r.row] (.tup [.a .nils, .a (.int .i64 e)]) := by
  have hv := sessV_den l hb.fit
  have ho := outV_den r.st r.cd r.out hr
  unfold recP recOk at h
  rw [rpl_rw]
  cases h0 : sessV l with
  | false =>
    rw [h0] at h hv
    have h := congrArg Prod.snd h
    simp at h; subst h
    refine den_of_body k_session_Record_g ⟨rfl, Nat.le_of_ble_eq_true rfl, thaw_intro ?_⟩
    unfold c_session_Record_g
    simp only [go_sem]
    refine t_call_intro (hv) ?_
    simp only [go_sem]
    simp only [aresult, ares, go_sem]
  | true =>
  rw [h0] at h hv
  by_cases h1 : 1 ≤ r.cl
  rotate_left
  · have h := congrArg Prod.snd h
    simp [h1] at h; subst h
    have g1 : r.cl < 1 := by omega
    refine den_of_body k_session_Record_g ⟨rfl, Nat.le_of_ble_eq_true rfl, thaw_intro ?_⟩
    unfold c_session_Record_g
    simp only [go_sem]
    refine t_call_intro (hv) ?_
    simp only [g1, go_sem]
    simp only [aresult, ares, go_sem]
  have g1 : ¬ r.cl < 1 := by omega
  by_cases h2 : r.cl ≤ 32
  rotate_left
  · have h := congrArg Prod.snd h
    simp [h2] at h; subst h
    have g2 : 32 < r.cl := by omega
    refine den_of_body k_session_Record_g ⟨rfl, Nat.le_of_ble_eq_true rfl, thaw_intro ?_⟩
    unfold c_session_Record_g
    simp only [go_sem]
    refine t_call_intro (hv) ?_
    simp only [g1, g2, go_sem]
    simp only [aresult, ares, go_sem]
  have g2 : ¬ 32 < r.cl := by omega
  cases h3 : outV r.st r.cd r.out with
  | false =>
    rw [h3] at h ho
    have h := congrArg Prod.snd h
    simp at h; subst h
    refine den_of_body k_session_Record_g ⟨rfl, Nat.le_of_ble_eq_true rfl, thaw_intro ?_⟩
    unfold c_session_Record_g
    simp only [go_sem]
    refine t_call_intro (hv) ?_
    simp only [g1, g2, go_sem]
    refine t_call_intro (ho) ?_
    simp only [go_sem]
    simp only [aresult, ares, go_sem]
  | true =>
  rw [h3] at h ho
  have hn := next_den l r.cl hb.fit.len (sessV_asc h0).1
  simp only [Bool.true_and, h1, h2, decide_true, if_true] at h
  by_cases h4 : r.sq = nextI l r.cl
  rotate_left
  · have h := congrArg Prod.snd h
    simp [h4] at h; subst h
    have g4 : (r.sq != nextI l r.cl) = true := by simpa using h4
    refine den_of_body k_session_Record_g ⟨rfl, Nat.le_of_ble_eq_true rfl, thaw_intro ?_⟩
    unfold c_session_Record_g
    simp only [go_sem]
    refine t_call_intro (hv) ?_
    simp only [g1, g2, go_sem]
    refine t_call_intro (ho) ?_
    simp only [go_sem]
    refine t_call_intro (hn) ?_
    simp only [g4, go_sem]
    simp only [aresult, ares, go_sem]
  have g4 : (r.sq != nextI l r.cl) = false := by simpa using h4
  rw [if_neg (by simp [h4])] at h
  by_cases h5 : r.sq = 1099511627776
  rotate_left
  · rw [if_neg h5] at h
    exact absurd (congrArg Prod.snd h).symm he
  have g5 : (r.sq == 1099511627776) = true := by simpa using h5
  have h := congrArg Prod.snd h
  simp [h5] at h; subst h
  refine den_of_body k_session_Record_g ⟨rfl, Nat.le_of_ble_eq_true rfl, thaw_intro ?_⟩
  unfold c_session_Record_g
  simp only [go_sem]
  refine t_call_intro (hv) ?_
  simp only [g1, g2, go_sem]
  refine t_call_intro (ho) ?_
  simp only [go_sem]
  refine t_call_intro (hn) ?_
  simp only [g4, g5, go_sem]
  simp only [aresult, ares, go_sem]
end Go.Proofs.Ytbiongfnbbnndaa
