/- Chapter 53: the law DigestOrder. -/
import Derived.Test.YtknmjfojlnajjaaDb
set_option linter.unusedSimpArgs false
set_option linter.unusedVariables false
namespace Go.Proofs.Ytknmjfojlnajjaa
open Go Ab Go.RowKit
set_option maxRecDepth 100000
attribute [local irreducible] awp aops aop asoft aeff aloop acall acallI acallT
attribute [local go_sem] Vl.row Pr.row

def revR (l : List Pr) (k : Nat) : List (List Atom) := (l.reverse.take k).map Pr.row
theorem revR_zero (l : List Pr) : revR l 0 = [] := rfl
theorem revR_len (l : List Pr) (k : Nat) : (revR l k).length ≤ k := by unfold revR; rw [List.length_map, List.length_take]; omega
theorem revR_step (l : List Pr) (k : Nat) (h : k < l.length) : revR l k ++ [(l[l.length - 1 - k]'(by omega)).row] = revR l (k + 1) := by
  unfold revR
  have h2 : k < l.reverse.length := by rw [List.length_reverse]; exact h
  rw [List.take_succ_eq_append_getElem h2, List.map_append, List.getElem_reverse]; rfl
theorem revR_all (l : List Pr) : revR l l.length = l.reverse.map Pr.row := by
  unfold revR
  rw [List.take_of_length_le (by rw [List.length_reverse]; exact Nat.le_refl _)]
theorem treeT_rev (l : List Pr) : treeT l.reverse = treeT l := by
  have : bks l.reverse = bks l := List.map_congr_left fun j _ => bk_reverse l j
  unfold treeT
  rw [this]
theorem keys_out (l : List Pr) (b : Int) (h : b < 0 ∨ 64 ≤ b) : l.filter (keysF b) = [] := by
  rw [List.filter_eq_nil_iff]
  intro p _ hq
  unfold keysF at hq
  have := bktN_lt p.key
  have hq : ((bktN p.key : Nat) : Int) = b := by simpa using hq
  omega
theorem bks_getR (l : List Pr) (k : Nat) (h : k < 64) : ((bks l).map u64R).getD k [] = [.int .u64 ((bk l k : Nat) : Int)] := by
  rw [u64R_get (bks l) k (by rw [bks_len]; exact h), bks_get l k h]
set_option maxHeartbeats 8000000 in
theorem DigestOrder_den (l : List Pr) (hl : Prs.arg l) (b : Int) : PDen Try.prog 7 [.a (.slice 4 (l.map Pr.row)), .a (.int .i64 b)] (.a (.bool true)) := by
  have hw := few_den l 12 hl.len
  change PDen _ _ [_, .a (.int .i64 12)] _ at hw
  refine den_of_body k_law53_DigestOrder ⟨rfl, Nat.le_of_ble_eq_true rfl, thaw_intro ?_⟩
  unfold c_law53_DigestOrder
  simp only [go_sem]
  refine t_call_intro (hw) ?_
  cases hf : fewL l 12 with
  | false =>
    simp only [go_sem]
    refine t_call_intro (lives_den) ?_
    simp only [go_sem]
    simp only [aresult, ares, go_sem]
  | true =>
    obtain ⟨f1, f2⟩ := few_of hf hl.all
    have ew0 : IntKind.i64.wrap ((l.length : Int) - 1) = (l.length : Int) - 1 := by rw [IntKind.wrap_i64]; omega
    have hz := revR_zero l
    simp only [ew0, go_sem]
    refine t_loopO_intro [.slot 5 36 4] (fun k : Nat => k ≤ l.length) (fun k => l.length - k) 0 [5, 6, 17, 18, 19, 20, 21, 22, 23, 24, 25, 26, 27] (fun k => [(5, .own 0), (6, .a (.int .i64 ((l.length : Int) - 1 - (k : Int))))]) (fun k => []) (fun k => [⟨36, 4, revR l k, false⟩]) (by omega) (by simp) (by first | (simp; done) | simp [hz]) (by first | (simp; done) | simp [hz]) (by first | (simp; done) | simp [hz]) (fun k => by first | (simp; done) | simp [hz]) (fun k => by first | (simp; done) | simp [hz]) (fun k => by first | (simp; done) | simp [hz]) ?_
    intro k hk st_ hst
    simp only [go_sem] at hst
    subst hst
    by_cases hlt : k < l.length
    · have hi : (l.length : Int) - 1 - (k : Int) = ((l.length - 1 - k : Nat) : Int) := by omega
      have q : (0 : Int) ≤ ((l.length - 1 - k : Nat) : Int) := by omega
      have q2 : ((l.length - 1 - k : Nat) : Int) < (l.length : Int) := by omega
      have hik : l.length - 1 - k < l.length := by omega
      have e := getD_map Pr.row l (l.length - 1 - k) hik
      have es := revR_step l k hlt
      rw [pr_row] at es
      have ew : IntKind.i64.wrap (((l.length - 1 - k : Nat) : Int) - 1) = (l.length : Int) - 1 - ((k + 1 : Nat) : Int) := by rw [IntKind.wrap_i64]; omega
      have hln := revR_len l k
      simp only [hi, q, q2, e, go_sem]
      refine t_gate_intro (by omega) ?_
      simp only [es, ew, go_sem]
      refine t_roundO (k + 1) (by omega) (by omega) (by simp) (by simp) (by simp) (by simp) (by simp)
    · have q : ¬ (0 : Int) ≤ (l.length : Int) - 1 - (k : Int) := by omega
      have ek : k = l.length := by omega
      have hal := revR_all l
      subst ek
      have d1 := tree_den l (by omega) f2
      have d2 := tree_den l.reverse (by rw [List.length_reverse]; omega) (fun p hp => f2 p (List.mem_reverse.1 hp))
      rw [treeT_rev] at d2
      have d3 := rsameT_den (treeT l) (treeT l) (by rw [treeT_len]; decide) (by rw [treeT_len]; decide)
      rw [sameT_refl] at d3
      have d4 := root_den (treeT l) (by rw [treeT_len]; decide)
      rw [tr_row (treeT l)] at d1 d2 d3 d4
      have el : (treeT l).bs = bks l := rfl
      have er : rootN (treeT l).bs = (treeT l).root := rfl
      rw [er] at d4
      rw [el] at d1 d2 d3 d4
      generalize (treeT l).root = R at d1 d2 d3 d4
      have n1 : ((R : Int) != (R : Int)) = false := by simp
      have l64 := bks_len l
      have n2 : (((64 : Nat) : Int) != 64) = false := by decide
      simp only [q, go_sem]
      refine t_call_intro (d1) ?_
      simp only [hal, go_sem]
      refine t_call_intro (d2) ?_
      simp only [go_sem]
      refine t_call_intro (d3) ?_
      simp only [go_sem]
      refine t_call_intro (d4) ?_
      simp only [n1, l64, n2, go_sem]
      by_cases hb : b < 0 ∨ 64 ≤ b
      · have ko := keys_out l b hb
        have kd := keys_den l b (by omega) f2
        rw [ko] at kd
        have e0 : (((0 : Nat) : Int) == 0) = true := by decide
        have e00 : ((0 : Int) == 0) = true := by decide
        by_cases hb1 : b < 0
        · simp only [hb1, go_sem]
          refine t_call_intro (kd) ?_
          simp only [e0, e00, go_sem]
          refine t_call_intro (lives_den) ?_
          simp only [go_sem]
          simp only [aresult, ares, go_sem]
        · have hb2 : (64 : Int) ≤ b := by omega
          simp only [hb1, hb2, go_sem]
          refine t_call_intro (kd) ?_
          simp only [e0, e00, go_sem]
          refine t_call_intro (lives_den) ?_
          simp only [go_sem]
          simp only [aresult, ares, go_sem]
      · have hb1 : ¬ b < 0 := by omega
        have hb2 : ¬ (64 : Int) ≤ b := by omega
        have hln : (l.filter (keysF b)).length ≤ l.length := List.length_filter_le _ _
        have kd := keys_den l b (by omega) f2
        have td := tree_den (l.filter (keysF b)) (by omega) (fun p hp => f2 p (List.mem_filter.1 hp).1)
        rw [tr_row (treeT (l.filter (keysF b)))] at td
        have el2 : (treeT (l.filter (keysF b))).bs = bks (l.filter (keysF b)) := rfl
        rw [el2] at td
        generalize (treeT (l.filter (keysF b))).root = R2 at td
        have m64 := bks_len (l.filter (keysF b))
        simp only [hb1, hb2, go_sem]
        refine t_call_intro (kd) ?_
        simp only [go_sem]
        refine t_call_intro (td) ?_
        simp only [m64, n2, go_sem]
        refine t_loop_intro (fun k : Nat => k ≤ 64) (fun k => 64 - k) 0 [4, 9, 70, 71, 72, 73, 74, 75, 76, 77, 78, 79, 80, 81, 82, 83, 84, 85, 86, 87, 88, 89, 90, 91, 92, 93, 94, 95, 96, 97, 98, 99, 100, 101, 102] (fun k => [(9, .a (.int .i64 k))]) (by omega) (by simp) (fun k => by simp) rfl ?_
        intro k hk fr_ hfr
        simp only [go_sem] at hfr
        subst hfr
        by_cases hlt : k < 64
        · have q1 : (k : Int) < 64 := by omega
          have q2 : (k : Int) < ((64 : Nat) : Int) := by omega
          have e1 := bks_getR l k hlt
          have e2 := bks_getR (l.filter (keysF b)) k hlt
          rw [bk_keys] at e2
          have ew := wrap1 k 64 hlt (by omega)
          have z0 : (((0 : Nat) : Int) != 0) = false := by decide
          have z00 : ((0 : Int) != 0) = false := by decide
          have x0 : (((bk l k : Nat) : Int) != ((bk l k : Nat) : Int)) = false := by simp
          by_cases hk2 : (k : Int) = b
          · have c1 : ((k : Int) == b) = true := by simp [hk2]
            have c2 : ((k : Int) != b) = false := by simp [hk2]
            rw [if_pos hk2] at e2
            simp only [q1, q2, hlt, l64, m64, e1, e2, c1, c2, x0, ew, go_sem]
            refine t_round (k + 1) (by omega) (by omega) (by simp) rfl rfl (by simp) rfl
          · have c1 : ((k : Int) == b) = false := by simp [hk2]
            have c2 : ((k : Int) != b) = true := by simp [hk2]
            rw [if_neg hk2] at e2
            simp only [q1, q2, hlt, l64, m64, e1, e2, c1, c2, z0, z00, ew, go_sem]
            refine t_round (k + 1) (by omega) (by omega) (by simp) rfl rfl (by simp) rfl
        · have q1 : ¬ (k : Int) < 64 := by omega
          simp only [q1, go_sem]
          refine t_call_intro (lives_den) ?_
          simp only [go_sem]
          simp only [aresult, ares, go_sem]
end Go.Proofs.Ytknmjfojlnajjaa
