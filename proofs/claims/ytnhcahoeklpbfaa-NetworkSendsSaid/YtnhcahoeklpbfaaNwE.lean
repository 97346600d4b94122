/- The reference of layer 40: lists that are equal; the example of the chapter. -/
import Derived.Test.YtnhcahoeklpbfaaNwD
set_option linter.unusedSimpArgs false
set_option linter.unusedVariables false
namespace Go.Proofs.Ytnhcahoeklpbfaa
open Go Ab
attribute [local irreducible] awp aops aop asoft aeff aloop acall
attribute [local go_sem] itemsA

theorem row9 (m : Msg) : m.row.length = 9 := rfl
theorem row9t (m : Msg) : m.row.take 9 = m.row := rfl
theorem row9a (m : Msg) : (m.row.map AV.a).take 9 = m.row.map AV.a := rfl
def Msgs.ok (l : List Msg) : Prop := l.length ≤ 9223372036854775807 ∧ ∀ m ∈ l, m.items.length ≤ 9223372036854775807

set_option maxRecDepth 100000 in
set_option maxHeartbeats 400000 in
theorem rsameAll_den (a b : List Msg) (ha : Msgs.ok a) (hb : Msgs.ok b) : PDen Try.prog 7 [.a (.slice 9 (a.map Msg.row)), .a (.slice 9 (b.map Msg.row))] (.a (.bool (allEq sameM a b))) := by
  refine den_of_body k_ref40_SameAll ⟨rfl, Nat.le_of_ble_eq_true rfl, thaw_intro ?_⟩
  unfold c_ref40_SameAll
  simp only [go_sem]
  first | refine t_case_dec (fun h => ?_) (fun h => ?_) | refine t_case_ndec (fun h => ?_) (fun h => ?_) | refine t_case_eqI (fun h => ?_) (fun h => ?_) | refine t_case_neI (fun h => ?_) (fun h => ?_) | refine t_case_not (fun h => ?_) (fun h => ?_) | refine t_case_intro (fun h => ?_) (fun h => ?_)
  rotate_left
  · simp only [go_sem]
    simp only [aresult, ares, go_sem]
    rw [allEq_len (by omega)]
  have hab : a.length = b.length := by omega
  simp only [go_sem]
  refine t_loop_intro (fun k : Nat => k ≤ a.length ∧ (allEq sameM a b = allEq sameM (a.drop k) (b.drop k))) (fun k => a.length - k) 0 [4, 5, 11, 12, 13, 14, 15, 16, 17, 18, 19, 20, 21, 22, 23, 24, 25, 26] (fun k => [(5, .a (.int .i64 k))]) ⟨by omega, by rfl⟩ (by simp) (fun k => by simp) rfl ?_
  intro k hk0 fr_ hfr
  have hk : k ≤ a.length := hk0.1
  have hall := hk0.2
  clear hk0
  simp only [go_sem] at hfr
  subst hfr
  by_cases hlt : k < a.length
  · have hltb : k < b.length := by omega
    have h1 : (k : Int) < (a.length : Int) := by omega
    have h2 : (k : Int) < (b.length : Int) := by omega
    have e1 := getD_map Msg.row a k hlt
    have e2 := getD_map Msg.row b k hltb
    have ew := wrap1 k a.length hlt ha.1
    have es := allEq_step (f := sameM) k hlt hltb
    simp only [h1, h2, e1, e2, row9, row9t, go_sem]
    refine t_call_intro (rsame_den a[k] b[k] (ha.2 _ (List.getElem_mem hlt)) (hb.2 _ (List.getElem_mem hltb))) ?_
    simp only [go_sem]
    first | refine t_case_dec (fun h3 => ?_) (fun h3 => ?_) | refine t_case_ndec (fun h3 => ?_) (fun h3 => ?_) | refine t_case_eqI (fun h3 => ?_) (fun h3 => ?_) | refine t_case_neI (fun h3 => ?_) (fun h3 => ?_) | refine t_case_not (fun h3 => ?_) (fun h3 => ?_) | refine t_case_intro (fun h3 => ?_) (fun h3 => ?_)
    rotate_left
    · simp only [go_sem]
      simp only [aresult, ares, go_sem]
      rw [hall, es, h3]; simp
    simp only [ew, go_sem]
    refine t_round (k + 1) ⟨by omega, by rw [hall, es, h3]; rfl⟩ (by omega) (by simp) rfl rfl (by simp) rfl
  · have h1 : ¬ (k : Int) < (a.length : Int) := by omega
    simp only [h1, go_sem]
    simp only [aresult, ares, go_sem]
    rw [List.drop_eq_nil_of_le (by omega), List.drop_eq_nil_of_le (by omega)] at hall
    rw [hall]; rfl

def voteM (t : Int) : Msg := ⟨1, 1, 2, t, 0, 0, 0, false, []⟩
set_option maxRecDepth 100000 in
theorem vote_den (t : Int) : PDen Try.prog 19 [.a (.int .i64 t)] (.agg (voteM t).row) := by
  refine PDen.le (r := .agg [.int .i64 1, .int .i64 1, .int .i64 2, .int .i64 t, .int .i64 0, .int .i64 0, .int .i64 0, .bool false, .nils]) ?_
    (VLe.agg ⟨RLe.refl _, RLe.refl _, RLe.refl _, RLe.refl _, RLe.refl _, RLe.refl _, RLe.refl _, RLe.refl _, RLe.nils 2, trivial⟩)
  refine den_of_body k_law40_vote ⟨rfl, Nat.le_of_ble_eq_true rfl, thaw_intro ?_⟩
  unfold c_law40_vote
  simp only [go_sem]
  simp only [aresult, ares, go_sem]

set_option maxRecDepth 100000 in
set_option maxHeartbeats 2000000 in
theorem examples_den : PDen Try.prog 14 [] (.a (.bool true)) := by
  have hfit : Msgs.fit [voteM 1, voteM 2, voteM 3] := ⟨by decide, fun m hm => by simp at hm; rcases hm with rfl | rfl | rfl <;> decide⟩
  have hd := deliver_den [voteM 1, voteM 2, voteM 3] 1 (by decide) hfit
  have ho := deliver_out [voteM 1, voteM 2, voteM 3] 3 (.inr (by decide))
  refine den_of_body k_law40_examples ⟨rfl, Nat.le_of_ble_eq_true rfl, thaw_intro ?_⟩
  unfold c_law40_examples
  simp only [go_sem]
  refine t_call_intro (vote_den 1) ?_
  simp only [go_sem]
  refine t_call_intro (vote_den 2) ?_
  simp only [go_sem]
  refine t_call_intro (vote_den 3) ?_
  simp only [row9, go_sem]
  refine t_call_intro (hd) ?_
  simp only [row9, go_sem]
  refine t_call_intro (ho) ?_
  simp only [row9, go_sem]
  have e0 : [voteM 1, voteM 2, voteM 3][1] = voteM 2 := rfl
  have e1 : [voteM 1, voteM 2, voteM 3].eraseIdx 1 = [voteM 1, voteM 3] := rfl
  have b1 : ∀ n : Int, (n == n) = true := fun n => by simp
  have v1 : validMsg (voteM 1) 2 = true := by decide
  have hbad : PDen Try.prog 20 [.agg [.int .i64 2, .int .i64 1, .int .i64 2, .int .i64 1, .int .i64 1, .int .i64 0, .int .i64 0, .bool false, .nils], .a (.int .i64 2)] (.a (.bool false)) :=
    (show PDen Try.prog 20 [.agg (Msg.row ⟨2, 1, 2, 1, 1, 0, 0, false, []⟩), .a (.int .i64 2)] (.a (.bool (validMsg ⟨2, 1, 2, 1, 1, 0, 0, false, []⟩ 2))) from valid_den ⟨2, 1, 2, 1, 1, 0, 0, false, []⟩ 2 (by decide)).args
      ⟨VLe.agg ⟨RLe.refl _, RLe.refl _, RLe.refl _, RLe.refl _, RLe.refl _, RLe.refl _, RLe.refl _, RLe.refl _, RLe.nils 2, trivial⟩, VLe.refl _, trivial⟩
  have hs := rsame_den (voteM 2) (voteM 2) (by decide) (by decide)
  have hok : Msgs.ok [voteM 1, voteM 3] := ⟨by decide, fun m hm => by simp at hm; rcases hm with rfl | rfl <;> decide⟩
  have ha := rsameAll_den [voteM 1, voteM 3] [voteM 1, voteM 3] hok hok
  have hv := valid_den (voteM 1) 2 (by decide)
  rw [sameM_refl] at hs
  rw [allEq_refl sameM_refl] at ha
  rw [v1] at hv
  simp only [e0, e1, b1, row9, row9a, go_sem]
  repeat' (first
    | (refine t_call_intro (vote_den _) ?_; simp only [b1, row9, row9a, go_sem])
    | (refine t_call_intro hs ?_; simp only [b1, row9, row9a, go_sem])
    | (refine t_call_intro ha ?_; simp only [b1, row9, row9a, go_sem])
    | (refine t_call_intro hv ?_; simp only [b1, row9, row9a, go_sem])
    | (refine t_call_intro hbad ?_; simp only [b1, row9, row9a, go_sem]))
  simp only [aresult, ares, go_sem]
end Go.Proofs.Ytnhcahoeklpbfaa
