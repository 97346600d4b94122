/- Chapter 53: the reference's trees; Same, Few, Valid, change. -/
import Derived.Test.YtknmjfojlnajjaaDt
set_option linter.unusedSimpArgs false
set_option linter.unusedVariables false
namespace Go.Proofs.Ytknmjfojlnajjaa
open Go Ab Go.RowKit
set_option maxRecDepth 100000
attribute [local irreducible] awp aops aop asoft aeff aloop acall acallI acallT
attribute [local go_sem] Vl.row Pr.row

def upR (bs : List Nat) (k : Nat) : List (List Atom) := (bs.take k).map u64R
theorem upR_zero (bs : List Nat) : upR bs 0 = [] := rfl
theorem upR_len (bs : List Nat) (k : Nat) : (upR bs k).length ≤ k := by unfold upR; rw [List.length_map, List.length_take]; omega
theorem upR_step (bs : List Nat) (k : Nat) (h : k < bs.length) : upR bs k ++ [[.int .u64 (bs[k] : Int)]] = upR bs (k + 1) := by
  unfold upR
  rw [List.take_succ_eq_append_getElem h, List.map_append]; rfl
theorem upR_all (bs : List Nat) (k : Nat) (h : bs.length ≤ k) : upR bs k = bs.map u64R := by unfold upR; rw [List.take_of_length_le h]
theorem bk0 (l : List Pr) (j : Nat) : bk (l.take 0) j = 0 := rfl
set_option maxHeartbeats 4000000 in
theorem rtree_den (l : List Pr) (hl : l.length ≤ 1000000) (hf : ∀ p ∈ l, p.few) : PDen Try.prog 13 [.a (.slice 4 (l.map Pr.row))] (.agg (Tr.row (treeT l))) := by
  have hB := bks_len l
  have hroot := rroot_den ⟨bks l, 0⟩ (by show (bks l).length ≤ 1000000; omega) ⟨(treeT_fit l).bs, by show 0 < 18446744073709551616; decide⟩
  rw [row_mk] at hroot
  change PDen Try.prog _ [.agg [.slice 1 ((bks l).map u64R), .int .u64 0]] (.a (.int .u64 ((rootN (bks l) : Nat) : Int))) at hroot
  rw [tree_mk, row_mk]
  generalize rootN (bks l) = R at hroot ⊢
  have hz := upR_zero (bks l)
  refine den_of_body k_ref53_Tree ⟨rfl, Nat.le_of_ble_eq_true rfl, thaw_intro ?_⟩
  unfold c_ref53_Tree
  simp only [go_sem]
  refine t_loopO_intro [.cell 1 0 24 1] (fun i : Nat => i ≤ 64) (fun i => 64 - i) 0 [4, 5, 6, 8, 9, 10, 11, 12, 13, 14, 15, 16, 17, 18, 19, 20, 21, 22, 23, 24, 25, 26, 27, 28, 29, 30, 31, 32, 33, 34, 35, 36, 37, 38] (fun i => [(4, .a (.int .i64 i))]) (fun i => [[.a .nils, .a (.int .u64 0)], [.own 0, .a (.int .u64 0)]]) (fun i => [⟨24, 1, upR (bks l) i, false⟩]) (by omega) (by simp) (by first | (simp; done) | simp [hz]) (by first | (simp; done) | simp [hz]) (by first | (simp; done) | simp [hz]) (fun i => by first | (simp; done) | simp [hz]) (fun i => by first | (simp; done) | simp [hz]) (fun i => by first | (simp; done) | simp [hz]) ?_
  intro i hki st_ hst
  simp only [go_sem] at hst
  subst hst
  by_cases hlti : i < 64
  · have q2 : (i : Int) < 64 := by omega
    have ewi := wrap1 i 64 hlti (by omega)
    have hln := upR_len (bks l) i
    simp only [q2, go_sem]
    refine t_loopO_intro [] (fun j : Nat => j ≤ l.length) (fun j => l.length - j) 0 [5, 6, 12, 13, 14, 15, 16, 17, 18, 19, 20, 21, 22, 23, 24, 25, 26, 27, 28, 29, 30, 31, 32] (fun j => [(5, .a (.int .u64 (bk (l.take j) i : Nat))), (6, .a (.int .i64 j))]) (fun j => [[.a .nils, .a (.int .u64 0)], [.own 0, .a (.int .u64 0)]]) (fun j => [⟨24, 1, upR (bks l) i, false⟩]) (by omega) (by simp) (by first | (simp; done) | simp [bk0, bk_nil]) (by first | (simp; done) | simp [bk0, bk_nil]) (by first | (simp; done) | simp [bk0, bk_nil]) (fun j => by first | (simp; done) | simp [bk0, bk_nil]) (fun j => by first | (simp; done) | simp [bk0, bk_nil]) (fun j => by first | (simp; done) | simp [bk0, bk_nil]) ?_
    intro j hkj st_ hst
    simp only [go_sem] at hst
    subst hst
    by_cases hltj : j < l.length
    · have q3 : (j : Int) < (l.length : Int) := by omega
      have ewj := wrap1 j l.length hltj (by omega)
      have e := getD_map Pr.row l j hltj
      have hp := hf _ (List.getElem_mem hltj)
      have hst := bk_take l j i hltj
      unfold bkF at hst
      simp only [q3, e, go_sem]
      refine t_call_intro (rbucket_den l[j].key (by have := hp.ks; omega)) ?_
      by_cases hb : bktN l[j].key = i
      · have hbi : (((bktN l[j].key : Nat) : Int) == ((i : Nat) : Int)) = true := by rw [hb]; simp
        rw [if_pos hb] at hst
        have hx := bx64 (bk (l.take j) i) (pairN l[j]) (bk_lt _ _) (pairN_lt _)
        rw [← hst] at hx
        simp only [hbi, q3, e, go_sem]
        refine t_call_intro (rpair_den l[j] hp) ?_
        simp only [hx, ewj, go_sem]
        refine t_roundO (j + 1) (by omega) (by omega) (by simp) (by simp) (by simp) (by simp) (by simp)
      · have hbi : (((bktN l[j].key : Nat) : Int) == ((i : Nat) : Int)) = false := by simp; omega
        rw [if_neg hb] at hst
        simp only [hbi, ewj, go_sem]
        refine t_roundO (j + 1) (by omega) (by omega) (by first | (simp; done) | simp [hst]) (by first | (simp; done) | simp [hst]) (by first | (simp; done) | simp [hst]) (by first | (simp; done) | simp [hst]) (by first | (simp; done) | simp [hst])
    · have q3 : ¬ (j : Int) < (l.length : Int) := by omega
      have hje : l.take j = l := List.take_of_length_le (by omega)
      have hg : (bks l)[i]'(by omega) = bk l i := bks_get l i hlti
      have hst := upR_step (bks l) i (by omega)
      rw [hg] at hst
      simp only [q3, hje, go_sem]
      refine t_gate_intro (by omega) ?_
      simp only [hst, ewi, go_sem]
      refine t_roundO (i + 1) (by omega) (by omega) (by simp) (by simp) (by simp) (by simp) (by simp)
  · have q2 : ¬ (i : Int) < 64 := by omega
    have hal := upR_all (bks l) i (by omega)
    simp only [q2, hal, go_sem]
    refine t_call_intro (hroot) ?_
    simp only [go_sem]
    simp only [aresult, ares, go_sem]
end Go.Proofs.Ytknmjfojlnajjaa
