/- The package mvstore: stores cut off; chapter 22: small stores, the example. -/
import Derived.Test.YtlfebjehmabejaaMwC
set_option linter.unusedSimpArgs false
set_option linter.unusedVariables false
namespace Go.Proofs.Ytlfebjehmabejaa
open Go Ab
attribute [local irreducible] awp aops aop asoft aeff aloop acall acallI acallT
attribute [local go_sem] Vl.row Ver.row Row.row Store.row Rg.row Pr.row

theorem gateN (n : Nat) (h : n * 40 ≤ 140737488351232) : (n + n / 4 + 192) * 40 ≤ 281474976710656 ∧ n ≤ 9223372036854775807 :=
  And.intro (gate40 n (n / 4) (Nat.div_le_self n 4) h) (by omega)
def cutHead (r : Row) (floor : Int) : List Ver := if (vlAt r.vs floor).kind = 0 then [] else [⟨floor, vlAt r.vs floor⟩]
def cutV (r : Row) (floor : Int) : List Ver := cutHead r floor ++ r.vs.drop (seenGo floor r.vs)
theorem vlAt_succ (vs : List Ver) (at_ : Int) (j : Nat) (h : seenGo at_ vs = j + 1) (hj : j < vs.length) : vlAt vs at_ = vs[j].v := by
  unfold vlAt
  rw [h]
  simp [hj]
theorem vlAt_none (vs : List Ver) (at_ : Int) (h : seenGo at_ vs = 0) : vlAt vs at_ = vl0 := by
  unfold vlAt; rw [h]

set_option maxRecDepth 100000 in
set_option maxHeartbeats 2000000 in
theorem cut_den (r : Row) (hs : (r.vs.length + 1) * 40 ≤ 140737488351232) (floor : Int) :
    PDen Try.prog 44 [.agg r.row, .a (.int .i64 floor)] (.a (.slice 4 ((cutV r floor).map Ver.row))) := by
  have hle := seenGo_le floor r.vs
  have hsd := seen_den r (by omega) floor
  have hvl : r.vs.length * 40 ≤ 140737488351232 := by omega
  have hdl : (r.vs.drop (seenGo floor r.vs)).length ≤ r.vs.length := by simp
  have hdl2 : ((r.vs.drop (seenGo floor r.vs)).length) * 40 ≤ 140737488351232 := by omega
  have ed : (r.vs.map Ver.row).drop (seenGo floor r.vs) = (r.vs.drop (seenGo floor r.vs)).map Ver.row := by rw [List.map_drop]
  have et : (r.vs.map Ver.row).take r.vs.length = r.vs.map Ver.row := List.take_of_length_le (by simp)
  rcases hm : seenGo floor r.vs with _ | j
  · rw [hm] at hsd ed hdl2
    have ec : cutV r floor = r.vs.drop 0 := by
      have hv := vlAt_none _ _ hm
      simp [cutV, cutHead, hv, vl0, hm]
    have n0 : ¬ (0 : Int) < ((0 : Nat) : Int) := by omega
    refine den_of_body k_mvstore_cut ⟨rfl, Nat.le_of_ble_eq_true rfl, thaw_intro ?_⟩
    unfold c_mvstore_cut
    simp only [go_sem]
    refine t_call_intro (hsd) ?_
    simp only [n0, go_sem]
    refine t_gate_intro (by simp) ?_
    simp only [et, ed, go_sem]
    refine t_gate_intro (gateN _ hvl) ?_
    simp only [go_sem]
    simp only [aresult, ares, go_sem]
    rw [ec, List.drop_zero]
  · have hj : j < r.vs.length := by omega
    have hv := vlAt_succ _ _ j hm hj
    rw [hm] at hsd ed hdl2
    have n0 : (0 : Int) < ((j + 1 : Nat) : Int) := by omega
    have ew := unwrap1 (j + 1) (by omega) (by omega)
    rw [show j + 1 - 1 = j from rfl] at ew
    have e1 := getD_map Ver.row r.vs j hj
    have er1 : r.vs[j].row = [.int .i64 r.vs[j].at_, .int .i64 r.vs[j].v.kind, .int .i64 r.vs[j].v.n, .str r.vs[j].v.s] := rfl
    have hjl : (j : Int) < (r.vs.length : Int) := by omega
    have hd2 : (r.vs.drop (j + 1)).length + 1 ≤ r.vs.length := by simp; omega
    have eml : ((r.vs.drop (j + 1)).map Ver.row).length = (r.vs.drop (j + 1)).length := by simp
    refine den_of_body k_mvstore_cut ⟨rfl, Nat.le_of_ble_eq_true rfl, thaw_intro ?_⟩
    unfold c_mvstore_cut
    simp only [go_sem]
    refine t_call_intro (hsd) ?_
    simp only [n0, ew, e1, er1, hjl, go_sem]
    by_cases hk : r.vs[j].v.kind = 0
    · have hk' : (r.vs[j].v.kind != 0) = false := by simp [hk]
      have ec : cutV r floor = r.vs.drop (j + 1) := by simp [cutV, cutHead, hv, hk, hm]
      simp only [hk', go_sem]
      refine t_gate_intro (by first | (simp; done) | (simp; omega)) ?_
      simp only [et, ed, go_sem]
      refine t_gate_intro (gateN _ hdl2) ?_
      simp only [go_sem]
      simp only [aresult, ares, go_sem]
      rw [ec]
    · have hk' : (r.vs[j].v.kind != 0) = true := by simp [hk]
      have ec : cutV r floor = ⟨floor, r.vs[j].v⟩ :: r.vs.drop (j + 1) := by simp [cutV, cutHead, hv, hk, hm]
      simp only [hk', n0, ew, e1, er1, hjl, go_sem]
      refine t_gate_intro (by first | (simp; done) | (simp; omega)) ?_
      simp only [et, ed, go_sem]
      refine t_gate_intro (by first | (simp; done) | (simp; omega)) ?_
      simp only [et, ed, go_sem]
      refine t_gate_intro (gateN (1 + (r.vs.drop (j + 1)).length) (by omega)) ?_
      simp only [go_sem]
      simp only [aresult, ares, go_sem]
      rw [ec]
      rfl

/-! The rows that are left. -/
def cutRow (floor : Int) (r : Row) : Row := ⟨r.key, cutV r floor⟩
def cutRows (floor : Int) (rows : List Row) : List Row := (rows.map (cutRow floor)).filter (fun r => !r.vs.isEmpty)
def cutS (s : Store) (floor : Int) : Store := ⟨floor, s.la, cutRows floor s.rows⟩
def cutUpto (floor : Int) (rows : List Row) (k : Nat) : List (List Atom) := (cutRows floor (rows.take k)).map Row.row
theorem cutUpto_zero (floor : Int) (rows : List Row) : cutUpto floor rows 0 = [] := by simp [cutUpto, cutRows]
theorem cutUpto_len (floor : Int) (rows : List Row) (k : Nat) : (cutUpto floor rows k).length ≤ k := by
  simp only [cutUpto, cutRows, List.length_map]
  exact Nat.le_trans (List.length_filter_le _ _) (by simp; omega)
theorem cutUpto_none (floor : Int) (rows : List Row) (k : Nat) (h : k < rows.length) (he : cutV rows[k] floor = []) : cutUpto floor rows (k + 1) = cutUpto floor rows k := by
  unfold cutUpto cutRows
  rw [List.take_succ_eq_append_getElem h, List.map_append, List.filter_append]
  simp [cutRow, he]
theorem cutUpto_some (floor : Int) (rows : List Row) (k : Nat) (h : k < rows.length) (he : cutV rows[k] floor ≠ []) : cutUpto floor rows (k + 1) = cutUpto floor rows k ++ [(cutRow floor rows[k]).row] := by
  unfold cutUpto cutRows
  rw [List.take_succ_eq_append_getElem h, List.map_append, List.filter_append]
  simp [cutRow, he]
def Store.cutable (s : Store) : Prop := s.rows.length * 40 ≤ 140737488351232 ∧ ∀ r ∈ s.rows, (r.vs.length + 1) * 40 ≤ 140737488351232
def truncA (s : Store) (floor : Int) : AV :=
  if storeV s = true then (if s.la < floor then .tup [.agg zeroS.row, .a (.int .i64 15)] else if floor ≤ s.fl then .tup [.agg s.row, .a (.int .i64 0)] else .tup [.agg (cutS s floor).row, .a (.int .i64 0)])
  else .tup [.agg zeroS.row, .a (.int .i64 1)]
set_option maxRecDepth 100000 in
set_option maxHeartbeats 2000000 in
theorem trunc_den (s : Store) (hs : s.fit) (hc : s.cutable) (floor : Int) :
    PDen Try.prog 15 [.agg s.row, .a (.int .i64 floor)] (truncA s floor) := by
  have hv := storeV_den s hs
  by_cases hok : storeV s = true
  · rw [hok] at hv
    by_cases hl : s.la < floor
    · rw [show truncA s floor = .tup [.agg zeroS.row, .a (.int .i64 15)] by simp [truncA, hok, hl]]
      refine PDen.le (r := .tup [.agg [.int .i64 0, .int .i64 0, .nils], .a (.int .i64 15)]) ?_ (VLe.tup ⟨zeroS_le, VLe.refl _, trivial⟩)
      refine den_of_body k_mvstore_Truncate ⟨rfl, Nat.le_of_ble_eq_true rfl, thaw_intro ?_⟩
      unfold c_mvstore_Truncate
      simp only [go_sem]
      refine t_call_intro (hv) ?_
      simp only [hl, go_sem]
      simp only [aresult, ares, go_sem]
    · by_cases hf : floor ≤ s.fl
      · rw [show truncA s floor = .tup [.agg s.row, .a (.int .i64 0)] by simp [truncA, hok, hl, hf]]
        refine den_of_body k_mvstore_Truncate ⟨rfl, Nat.le_of_ble_eq_true rfl, thaw_intro ?_⟩
        unfold c_mvstore_Truncate
        simp only [go_sem]
        refine t_call_intro (hv) ?_
        simp only [hl, hf, go_sem]
        refine t_call_intro (clone_den s hc.1 (fun r h => by have := hc.2 r h; omega)) ?_
        simp only [go_sem]
        simp only [aresult, ares, go_sem]
      · rw [show truncA s floor = .tup [.agg (cutS s floor).row, .a (.int .i64 0)] by simp [truncA, hok, hl, hf]]
        have ez := cutUpto_zero floor s.rows
        refine den_of_body k_mvstore_Truncate ⟨rfl, Nat.le_of_ble_eq_true rfl, thaw_intro ?_⟩
        unfold c_mvstore_Truncate
        simp only [go_sem]
        refine t_call_intro (hv) ?_
        simp only [hl, hf, go_sem]
        refine t_loopO_intro [.cell 2 2 52 2] (fun k : Nat => k ≤ s.rows.length) (fun k => s.rows.length - k) 0 [8, 9, 32, 33, 34, 35, 36, 37, 38, 39, 40, 41, 42, 43, 44, 45, 46, 47, 48, 49, 50, 51] (fun k => [(32, .a (.int .i64 k))]) (fun k => [[.a (.int .i64 s.fl), .a (.int .i64 s.la), .a (.slice 2 (s.rows.map Row.row))], [.a (.int .i64 0), .a (.int .i64 0), .a .nils], [.a (.int .i64 floor), .a (.int .i64 s.la), .own 0]]) (fun k => [⟨52, 2, cutUpto floor s.rows k, false⟩]) (by omega) (by simp) (by first | (simp; done) | simp [ez]) (by first | (simp; done) | simp [ez]) (by first | (simp; done) | simp [ez]) (fun k => by first | (simp; done) | simp [ez]) (fun k => by first | (simp; done) | simp [ez]) (fun k => by first | (simp; done) | simp [ez]) ?_
        intro k hk st_ hst
        simp only [go_sem] at hst
        subst hst
        by_cases hlt : k < s.rows.length
        · have h1 : (k : Int) < (s.rows.length : Int) := by omega
          have e := getD_map Row.row s.rows k hlt
          have er : s.rows[k].row = [.str s.rows[k].key, .slice 4 (s.rows[k].vs.map Ver.row)] := rfl
          have hb := hc.1
          have ew := wrap1 k s.rows.length hlt (by omega)
          have hln := cutUpto_len floor s.rows k
          have hg : ((cutUpto floor s.rows k).length + 1) * 40 ≤ 140737488351232 := by omega
          have hcd := cut_den s.rows[k] (hc.2 _ (List.getElem_mem hlt)) floor
          simp only [h1, e, er, go_sem]
          refine t_call_intro (hcd) ?_
          simp only [go_sem]
          by_cases hz : cutV s.rows[k] floor = []
          · have hz0 : ¬ (0 : Int) < ((cutV s.rows[k] floor).length : Int) := by simp [hz]
            have es := cutUpto_none floor s.rows k hlt hz
            simp only [hz0, go_sem]
            rw [← es]
            simp only [ew, go_sem]
            refine t_roundO (k + 1) (by omega) (by omega) (by simp) (by simp) (by simp) (by simp) (by simp)
          · have hz0 : (0 : Int) < ((cutV s.rows[k] floor).length : Int) := by
              have := List.length_pos_iff.mpr hz
              omega
            have es := cutUpto_some floor s.rows k hlt hz
            rw [show (cutRow floor s.rows[k]).row = [.str s.rows[k].key, .slice 4 ((cutV s.rows[k] floor).map Ver.row)] from rfl] at es
            simp only [hz0, go_sem]
            refine t_gate_intro (ins_gate _ hg) ?_
            simp only [go_sem]
            rw [← es]
            simp only [ew, go_sem]
            refine t_roundO (k + 1) (by omega) (by omega) (by simp) (by simp) (by simp) (by simp) (by simp)
        · have h1 : ¬ (k : Int) < (s.rows.length : Int) := by omega
          have ek : cutUpto floor s.rows k = (cutS s floor).rows.map Row.row := by unfold cutUpto; rw [List.take_of_length_le (by omega)]; rfl
          simp only [h1, ek, go_sem]
          simp only [aresult, ares, go_sem]
          rfl
  · rw [show truncA s floor = .tup [.agg zeroS.row, .a (.int .i64 1)] by simp [truncA, hok]]
    refine PDen.le (r := .tup [.agg [.int .i64 0, .int .i64 0, .nils], .a (.int .i64 1)]) ?_ (VLe.tup ⟨zeroS_le, VLe.refl _, trivial⟩)
    have hno : storeV s = false := by simpa using hok
    rw [hno] at hv
    refine den_of_body k_mvstore_Truncate ⟨rfl, Nat.le_of_ble_eq_true rfl, thaw_intro ?_⟩
    unfold c_mvstore_Truncate
    simp only [go_sem]
    refine t_call_intro (hv) ?_
    simp only [go_sem]
    simp only [aresult, ares, go_sem]
end Go.Proofs.Ytlfebjehmabejaa
