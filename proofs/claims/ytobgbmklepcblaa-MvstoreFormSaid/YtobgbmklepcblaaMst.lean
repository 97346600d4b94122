/- Chapter 22: the reference's Truncate; the law MvstoreTruncates, walked. -/
import Derived.Test.YtobgbmklepcblaaMsn
import Derived.Test.YtobgbmklepcblaaRf
namespace Go.Proofs.Ytobgbmklepcblaa
open Go Ab
attribute [local irreducible] awp aops aop asoft aeff aloop acall acallI acallT
attribute [local go_sem] Vl.row Ver.row Row.row Store.row Rg.row Pr.row

def rcut (r : Row) (floor : Int) (j : Nat) : List Ver := cutHead r floor ++ (r.vs.take j).filter fun x => decide (floor < x.at_)
def rcutA (r : Row) (floor : Int) (j : Nat) : List (List Atom) := (rcut r floor j).map Ver.row
theorem rcutA_zero (r : Row) (floor : Int) : rcutA r floor 0 = (cutHead r floor).map Ver.row := by simp [rcutA, rcut]
theorem rcutA_yes (r : Row) (floor : Int) (j : Nat) (h : j < r.vs.length) (h2 : floor < r.vs[j].at_) : rcutA r floor (j + 1) = rcutA r floor j ++ [[.int .i64 r.vs[j].at_, .int .i64 r.vs[j].v.kind, .int .i64 r.vs[j].v.n, .str r.vs[j].v.s]] := by
  unfold rcutA rcut
  rw [List.take_succ_eq_append_getElem h, List.filter_append, ← List.append_assoc, List.map_append]
  simp [h2, Ver.row]
theorem rcutA_no (r : Row) (floor : Int) (j : Nat) (h : j < r.vs.length) (h2 : ¬ floor < r.vs[j].at_) : rcutA r floor (j + 1) = rcutA r floor j := by
  unfold rcutA rcut
  rw [List.take_succ_eq_append_getElem h, List.filter_append]
  simp [h2]
theorem rcutA_len (r : Row) (floor : Int) (j : Nat) : (rcutA r floor j).length ≤ j + 1 := by
  have h1 := List.length_filter_le (fun x : Ver => decide (floor < x.at_)) (r.vs.take j)
  have h2 := List.length_take_le j r.vs
  have h3 : (cutHead r floor).length ≤ 1 := by unfold cutHead; split <;> simp
  simp only [rcutA, rcut, List.length_map, List.length_append]; omega
theorem filter_seen (floor : Int) : ∀ vs : List Ver, vs.Pairwise (fun a b => a.at_ < b.at_) → vs.filter (fun x => decide (floor < x.at_)) = vs.drop (seenGo floor vs)
  | [], _ => rfl
  | x :: xs, h => by
    by_cases hx : x.at_ ≤ floor
    · rw [List.filter_cons, if_neg (by simp; omega), filter_seen floor xs h.of_cons]
      simp only [seenGo, if_pos hx]; rfl
    · simp only [seenGo, if_neg hx]
      rw [List.filter_eq_self.2]
      · rfl
      · intro y hy
        rcases List.mem_cons.1 hy with rfl | hy
        · simp; omega
        · have := (List.pairwise_cons.1 h).1 y hy
          simp; omega
theorem rcutA_end (r : Row) (floor : Int) (h : r.vs.Pairwise (fun a b => a.at_ < b.at_)) : rcutA r floor r.vs.length = (cutV r floor).map Ver.row := by
  unfold rcutA rcut cutV
  rw [List.take_length, filter_seen floor r.vs h]

set_option maxRecDepth 100000 in
set_option maxHeartbeats 4000000 in
theorem rtrunc_den (s : Store) (hs : s.fit) (hc : s.cutable) (floor : Int) :
    PDen Try.prog 24 [.agg s.row, .a (.int .i64 floor)] (truncA s floor) := by
  have hv := rstoreV_den s hs
  by_cases hok : storeV s = true
  · rw [hok] at hv
    by_cases hl : s.la < floor
    · rw [show truncA s floor = .tup [.agg zeroS.row, .a (.int .i64 15)] by simp [truncA, hok, hl]]
      refine PDen.le (r := .tup [.agg [.int .i64 0, .int .i64 0, .nils], .a (.int .i64 15)]) ?_ (VLe.tup ⟨zeroS_le, VLe.refl _, trivial⟩)
      refine den_of_body k_ref22_Truncate ⟨rfl, Nat.le_of_ble_eq_true rfl, thaw_intro ?_⟩
      unfold c_ref22_Truncate
      simp only [go_sem]
      refine t_call_intro (hv) ?_
      simp only [hl, go_sem]
      simp only [aresult, ares, go_sem]
    · by_cases hf : floor ≤ s.fl
      · rw [show truncA s floor = .tup [.agg s.row, .a (.int .i64 0)] by simp [truncA, hok, hl, hf]]
        refine den_of_body k_ref22_Truncate ⟨rfl, Nat.le_of_ble_eq_true rfl, thaw_intro ?_⟩
        unfold c_ref22_Truncate
        simp only [go_sem]
        refine t_call_intro (hv) ?_
        simp only [hl, hf, go_sem]
        simp only [aresult, ares, go_sem]
      · rw [show truncA s floor = .tup [.agg (cutS s floor).row, .a (.int .i64 0)] by simp [truncA, hok, hl, hf]]
        have ez := cutUpto_zero floor s.rows
        refine den_of_body k_ref22_Truncate ⟨rfl, Nat.le_of_ble_eq_true rfl, thaw_intro ?_⟩
        unfold c_ref22_Truncate
        simp only [go_sem]
        refine t_call_intro (hv) ?_
        simp only [hl, hf, go_sem]
        refine t_loopO_intro [.cell 2 2 58 2] (fun k : Nat => k ≤ s.rows.length) (fun k => s.rows.length - k) 0 [7, 8, 9, 10, 11, 30, 31, 32, 33, 34, 35, 36, 37, 38, 39, 40, 41, 42, 43, 44, 45, 46, 47, 48, 49, 50, 51, 52, 53, 54, 55, 56, 57, 58, 59, 60, 61, 62, 63, 64, 65, 66, 67, 68, 69, 70, 71, 72, 73, 74, 75, 76, 77, 78, 79, 80, 81, 82, 83, 84, 85, 86, 87, 88, 89, 90, 91, 92, 93] (fun k => [(7, .a (.int .i64 k))]) (fun k => [[.a (.int .i64 s.fl), .a (.int .i64 s.la), .a (.slice 2 (s.rows.map Row.row))], [.a (.int .i64 0), .a (.int .i64 0), .a .nils], [.a (.int .i64 floor), .a (.int .i64 s.la), .own 0]]) (fun k => [⟨58, 2, cutUpto floor s.rows k, false⟩]) (by omega) (by simp) (by first | (simp; done) | simp [ez]) (by first | (simp; done) | simp [ez]) (by first | (simp; done) | simp [ez]) (fun k => by first | (simp; done) | simp [ez]) (fun k => by first | (simp; done) | simp [ez]) (fun k => by first | (simp; done) | simp [ez]) ?_
        intro k hk st_ hst
        simp only [go_sem] at hst
        subst hst
        by_cases hlt : k < s.rows.length
        · have h1 : (k : Int) < (s.rows.length : Int) := by omega
          have e := getD_map Row.row s.rows k hlt
          have er : s.rows[k].row = [.str s.rows[k].key, .slice 4 (s.rows[k].vs.map Ver.row)] := rfl
          have hb := hc.1
          have hb2 := hc.2 _ (List.getElem_mem hlt)
          have ew := wrap1 k s.rows.length hlt (by omega)
          have hln := cutUpto_len floor s.rows k
          have hg : ((cutUpto floor s.rows k).length + 1) * 40 ≤ 140737488351232 := by omega
          have hvr := ((storeV_sorted s hok).2 _ (List.getElem_mem hlt)).2
          have hp := (versGo_sorted _ _ _ _ (versV_go _ _ _ hvr)).2.1
          have hsd := rseen_den s.rows[k] (by omega) floor
          rw [lastV_vlAt _ _ hp] at hsd
          have eend := rcutA_end s.rows[k] floor hp
          have ezero := rcutA_zero s.rows[k] floor
          simp only [h1, e, er, go_sem]
          refine t_call_intro (hsd) ?_
          simp only [go_sem]
          by_cases hk0 : (vlAt s.rows[k].vs floor).kind = 0
          · have hk' : ((vlAt s.rows[k].vs floor).kind != 0) = false := by simp [hk0]
            have ehd : (cutHead s.rows[k] floor).map Ver.row = [] := by simp [cutHead, hk0]
            rw [ehd] at ezero
            simp only [hk', go_sem]
            refine t_loopO_intro [.cell 4 1 60 4] (fun j : Nat => j ≤ s.rows[k].vs.length) (fun j => s.rows[k].vs.length - j) 0 [11, 59, 60, 61, 62, 63, 64, 65, 66, 67, 68, 69, 70, 71, 72, 73, 74, 75, 76, 77, 78, 79, 80, 81, 82, 83] (fun j => [(11, .a (.int .i64 j))]) (fun j => [[.a (.int .i64 s.fl), .a (.int .i64 s.la), .a (.slice 2 (s.rows.map Row.row))], [.a (.int .i64 0), .a (.int .i64 0), .a .nils], [.a (.int .i64 floor), .a (.int .i64 s.la), .own 0], [.a (.str s.rows[k].key), .a (.slice 4 (s.rows[k].vs.map Ver.row))], [.a (.str s.rows[k].key), .own 1], [.a (.int .i64 (vlAt s.rows[k].vs floor).kind), .a (.int .i64 (vlAt s.rows[k].vs floor).n), .a (.str (vlAt s.rows[k].vs floor).s)]]) (fun j => [⟨58, 2, cutUpto floor s.rows k, false⟩, ⟨60, 4, rcutA s.rows[k] floor j, false⟩]) (by omega) (by simp) (by first | (simp; done) | simp [ezero]) (by first | (simp; done) | simp [ezero]) (by first | (simp; done) | simp [ezero]) (fun j => by first | (simp; done) | simp [ezero]) (fun j => by first | (simp; done) | simp [ezero]) (fun j => by first | (simp; done) | simp [ezero]) ?_
            intro j hkj st_ hst
            simp only [go_sem] at hst
            subst hst
            by_cases hltj : j < s.rows[k].vs.length
            · have h2 : (j : Int) < (s.rows[k].vs.length : Int) := by omega
              have e2 := getD_map Ver.row s.rows[k].vs j hltj
              have er2 : s.rows[k].vs[j].row = [.int .i64 s.rows[k].vs[j].at_, .int .i64 s.rows[k].vs[j].v.kind, .int .i64 s.rows[k].vs[j].v.n, .str s.rows[k].vs[j].v.s] := rfl
              have ew2 := wrap1 j s.rows[k].vs.length hltj (by omega)
              have hln2 := rcutA_len s.rows[k] floor j
              have hg2 : ((rcutA s.rows[k] floor j).length + 1) * 40 ≤ 140737488351232 := by omega
              simp only [h2, e2, er2, go_sem]
              first | refine t_case_dec (fun h3 => ?_) (fun h3 => ?_) | refine t_case_ndec (fun h3 => ?_) (fun h3 => ?_) | refine t_case_eqI (fun h3 => ?_) (fun h3 => ?_) | refine t_case_neI (fun h3 => ?_) (fun h3 => ?_) | refine t_case_not (fun h3 => ?_) (fun h3 => ?_) | refine t_case_intro (fun h3 => ?_) (fun h3 => ?_)
              · simp only [h2, e2, er2, go_sem]
                refine t_gate_intro (ins_gate _ hg2) ?_
                have es2 := rcutA_yes s.rows[k] floor j hltj h3
                simp only [go_sem]
                rw [← es2]
                simp only [ew2, go_sem]
                refine t_roundO (j + 1) (by omega) (by omega) (by simp) (by simp) (by simp) (by simp) (by simp)
              · have es2 := rcutA_no s.rows[k] floor j hltj h3
                simp only [go_sem]
                rw [← es2]
                simp only [ew2, go_sem]
                refine t_roundO (j + 1) (by omega) (by omega) (by simp) (by simp) (by simp) (by simp) (by simp)
            · have h2 : ¬ (j : Int) < (s.rows[k].vs.length : Int) := by omega
              have ej : j = s.rows[k].vs.length := by omega
              subst ej
              rw [eend]
              simp only [h2, go_sem]
              by_cases hz : cutV s.rows[k] floor = []
              · have hz0 : ¬ (0 : Int) < ((cutV s.rows[k] floor).length : Int) := by simp [hz]
                have es := cutUpto_none floor s.rows k hlt hz
                simp only [hz0, go_sem]
                rw [← es]
                simp only [ew, go_sem]
                refine t_roundO (k + 1) (by omega) (by omega) (by simp) (by simp) (by simp) (by simp) (by simp)
              · have hz0 : (0 : Int) < ((cutV s.rows[k] floor).length : Int) := by
                  have := List.length_pos_iff.mpr hz
                  omega
                have es := cutUpto_some floor s.rows k hlt hz
                rw [show (cutRow floor s.rows[k]).row = [.str s.rows[k].key, .slice 4 ((cutV s.rows[k] floor).map Ver.row)] from rfl] at es
                simp only [hz0, go_sem]
                refine t_gate_intro (ins_gate _ hg) ?_
                simp only [go_sem]
                rw [← es]
                simp only [ew, go_sem]
                refine t_roundO (k + 1) (by omega) (by omega) (by simp) (by simp) (by simp) (by simp) (by simp)
          · have hk' : ((vlAt s.rows[k].vs floor).kind != 0) = true := by simp [hk0]
            have ehd : (cutHead s.rows[k] floor).map Ver.row = [[.int .i64 floor, .int .i64 (vlAt s.rows[k].vs floor).kind, .int .i64 (vlAt s.rows[k].vs floor).n, .str (vlAt s.rows[k].vs floor).s]] := by simp [cutHead, hk0, Ver.row]
            rw [ehd] at ezero
            simp only [hk', go_sem]
            refine t_gate_intro (by first | (simp; done) | (simp; omega)) ?_
            simp only [hk', go_sem]
            refine t_loopO_intro [] (fun j : Nat => j ≤ s.rows[k].vs.length) (fun j => s.rows[k].vs.length - j) 0 [11, 59, 60, 61, 62, 63, 64, 65, 66, 67, 68, 69, 70, 71, 72, 73, 74, 75, 76, 77, 78, 79, 80, 81, 82, 83] (fun j => [(11, .a (.int .i64 j)), (57, .any)]) (fun j => [[.a (.int .i64 s.fl), .a (.int .i64 s.la), .a (.slice 2 (s.rows.map Row.row))], [.a (.int .i64 0), .a (.int .i64 0), .a .nils], [.a (.int .i64 floor), .a (.int .i64 s.la), .own 0], [.a (.str s.rows[k].key), .a (.slice 4 (s.rows[k].vs.map Ver.row))], [.a (.str s.rows[k].key), .own 1], [.a (.int .i64 (vlAt s.rows[k].vs floor).kind), .a (.int .i64 (vlAt s.rows[k].vs floor).n), .a (.str (vlAt s.rows[k].vs floor).s)]]) (fun j => [⟨58, 2, cutUpto floor s.rows k, false⟩, ⟨60, 4, rcutA s.rows[k] floor j, false⟩]) (by omega) (by simp) (by first | (simp; done) | simp [ezero]) (by first | (simp; done) | simp [ezero]) (by first | (simp; done) | simp [ezero]) (fun j => by first | (simp; done) | simp [ezero]) (fun j => by first | (simp; done) | simp [ezero]) (fun j => by first | (simp; done) | simp [ezero]) ?_
            intro j hkj st_ hst
            simp only [go_sem] at hst
            subst hst
            by_cases hltj : j < s.rows[k].vs.length
            · have h2 : (j : Int) < (s.rows[k].vs.length : Int) := by omega
              have e2 := getD_map Ver.row s.rows[k].vs j hltj
              have er2 : s.rows[k].vs[j].row = [.int .i64 s.rows[k].vs[j].at_, .int .i64 s.rows[k].vs[j].v.kind, .int .i64 s.rows[k].vs[j].v.n, .str s.rows[k].vs[j].v.s] := rfl
              have ew2 := wrap1 j s.rows[k].vs.length hltj (by omega)
              have hln2 := rcutA_len s.rows[k] floor j
              have hg2 : ((rcutA s.rows[k] floor j).length + 1) * 40 ≤ 140737488351232 := by omega
              simp only [h2, e2, er2, go_sem]
              first | refine t_case_dec (fun h3 => ?_) (fun h3 => ?_) | refine t_case_ndec (fun h3 => ?_) (fun h3 => ?_) | refine t_case_eqI (fun h3 => ?_) (fun h3 => ?_) | refine t_case_neI (fun h3 => ?_) (fun h3 => ?_) | refine t_case_not (fun h3 => ?_) (fun h3 => ?_) | refine t_case_intro (fun h3 => ?_) (fun h3 => ?_)
              · simp only [h2, e2, er2, go_sem]
                refine t_gate_intro (ins_gate _ hg2) ?_
                have es2 := rcutA_yes s.rows[k] floor j hltj h3
                simp only [go_sem]
                rw [← es2]
                simp only [ew2, go_sem]
                refine t_roundO (j + 1) (by omega) (by omega) (by simp) (by simp) (by simp) (by simp) (by simp)
              · have es2 := rcutA_no s.rows[k] floor j hltj h3
                simp only [go_sem]
                rw [← es2]
                simp only [ew2, go_sem]
                refine t_roundO (j + 1) (by omega) (by omega) (by simp) (by simp) (by simp) (by simp) (by simp)
            · have h2 : ¬ (j : Int) < (s.rows[k].vs.length : Int) := by omega
              have ej : j = s.rows[k].vs.length := by omega
              subst ej
              rw [eend]
              simp only [h2, go_sem]
              by_cases hz : cutV s.rows[k] floor = []
              · have hz0 : ¬ (0 : Int) < ((cutV s.rows[k] floor).length : Int) := by simp [hz]
                have es := cutUpto_none floor s.rows k hlt hz
                simp only [hz0, go_sem]
                rw [← es]
                simp only [ew, go_sem]
                refine t_roundO (k + 1) (by omega) (by omega) (by simp) (by simp) (by simp) (by simp) (by simp)
              · have hz0 : (0 : Int) < ((cutV s.rows[k] floor).length : Int) := by
                  have := List.length_pos_iff.mpr hz
                  omega
                have es := cutUpto_some floor s.rows k hlt hz
                rw [show (cutRow floor s.rows[k]).row = [.str s.rows[k].key, .slice 4 ((cutV s.rows[k] floor).map Ver.row)] from rfl] at es
                simp only [hz0, go_sem]
                refine t_gate_intro (ins_gate _ hg) ?_
                simp only [go_sem]
                rw [← es]
                simp only [ew, go_sem]
                refine t_roundO (k + 1) (by omega) (by omega) (by simp) (by simp) (by simp) (by simp) (by simp)
        · have h1 : ¬ (k : Int) < (s.rows.length : Int) := by omega
          have ek : cutUpto floor s.rows k = (cutS s floor).rows.map Row.row := by unfold cutUpto; rw [List.take_of_length_le (by omega)]; rfl
          simp only [h1, ek, go_sem]
          simp only [aresult, ares, go_sem]
          rfl
  · rw [show truncA s floor = .tup [.agg zeroS.row, .a (.int .i64 1)] by simp [truncA, hok]]
    refine PDen.le (r := .tup [.agg [.int .i64 0, .int .i64 0, .nils], .a (.int .i64 1)]) ?_ (VLe.tup ⟨zeroS_le, VLe.refl _, trivial⟩)
    have hno : storeV s = false := by simpa using hok
    rw [hno] at hv
    refine den_of_body k_ref22_Truncate ⟨rfl, Nat.le_of_ble_eq_true rfl, thaw_intro ?_⟩
    unfold c_ref22_Truncate
    simp only [go_sem]
    refine t_call_intro (hv) ?_
    simp only [go_sem]
    simp only [aresult, ares, go_sem]

theorem cut_len (r : Row) (floor : Int) : (cutV r floor).length ≤ r.vs.length + 1 := by
  have h3 : (cutHead r floor).length ≤ 1 := by unfold cutHead; split <;> simp
  simp only [cutV, List.length_append, List.length_drop]; omega
def truncB (s : Store) (floor : Int) : Store :=
  if storeV s = true then (if s.la < floor then zeroS else if floor ≤ s.fl then s else cutS s floor) else zeroS
def truncE (s : Store) (floor : Int) : Int :=
  if storeV s = true then (if s.la < floor then 15 else 0) else 1
theorem truncA_eq (s : Store) (floor : Int) : truncA s floor = .tup [.agg (truncB s floor).row, .a (.int .i64 (truncE s floor))] := by
  unfold truncA truncB truncE
  by_cases h : storeV s = true
  · by_cases h2 : s.la < floor
    · simp [h, h2]
    · by_cases h3 : floor ≤ s.fl
      · simp [h, h2, h3]
      · simp [h, h2, h3]
  · simp [h]
theorem truncB_small (s : Store) (floor : Int) (hc : s.cutable) : (truncB s floor).rows.length * 40 ≤ 140737488351232 ∧ ∀ r ∈ (truncB s floor).rows, r.vs.length * 40 ≤ 140737488351232 := by
  have z : (zeroS.rows.length * 40 ≤ 140737488351232 ∧ ∀ r ∈ zeroS.rows, r.vs.length * 40 ≤ 140737488351232) := ⟨by simp [zeroS], fun r hr => by simp [zeroS] at hr⟩
  have h1 := hc.1
  unfold truncB
  split
  · split
    · exact z
    · split
      · exact ⟨h1, fun r hr => by have := hc.2 r hr; omega⟩
      · refine ⟨?_, fun r hr => ?_⟩
        · have := List.length_filter_le (fun r : Row => !r.vs.isEmpty) (s.rows.map (cutRow floor))
          rw [List.length_map] at this
          simp only [cutS, cutRows]; omega
        · simp only [cutS, cutRows, List.mem_filter, List.mem_map] at hr
          obtain ⟨⟨x, hx, rfl⟩, _⟩ := hr
          have := hc.2 x hx
          have := cut_len x floor
          simp only [cutRow]; omega
  · exact z
theorem cutable_few (s : Store) (h : fewS s 12 = true) : s.cutable := by
  simp only [fewS, Bool.and_eq_true, decide_eq_true_eq, List.all_eq_true] at h
  refine ⟨by omega, fun r hr => ?_⟩
  have := h.2 r hr
  simp only [fewRow, Bool.and_eq_true, decide_eq_true_eq] at this
  omega
set_option maxRecDepth 100000 in
set_option maxHeartbeats 1000000 in
theorem mvTruncates_den (s : Store) (hs : s.fit) (hm : s.small) (floor : Int) : PDen Try.prog 6 [.agg s.row, .a (.int .i64 floor)] (.a (.bool true)) := by
  by_cases h0 : fewS s 12 = true
  · have hc := cutable_few s h0
    have hn := trunc_den s hs hc floor
    have hr := rtrunc_den s hs hc floor
    rw [truncA_eq] at hn hr
    have hsm := truncB_small s floor hc
    have e1 : (truncE s floor == truncE s floor) = true := by simp
    have hss := ssame_den (truncB s floor) (truncB s floor) hsm
    rw [storeEq_self] at hss
    have hfew := few_den s hm 12
    rw [h0] at hfew
    generalize truncB s floor = t at *
    generalize truncE s floor = q at *
    refine den_of_body k_law22_MvstoreTruncates ⟨rfl, Nat.le_of_ble_eq_true rfl, thaw_intro ?_⟩
    unfold c_law22_MvstoreTruncates
    simp only [go_sem]
    refine t_call_intro (hfew) ?_
    simp only [go_sem]
    refine t_call_intro (hn) ?_
    simp only [go_sem]
    refine t_call_intro (hr) ?_
    simp only [go_sem]
    refine t_call_intro (hss) ?_
    simp only [e1, go_sem]
    refine t_call_intro (lives_den) ?_
    simp only [go_sem]
    simp only [aresult, ares, go_sem]
  · have h0 : fewS s 12 = false := by simpa using h0
    have hfew := few_den s hm 12
    rw [h0] at hfew
    refine den_of_body k_law22_MvstoreTruncates ⟨rfl, Nat.le_of_ble_eq_true rfl, thaw_intro ?_⟩
    unfold c_law22_MvstoreTruncates
    simp only [go_sem]
    refine t_call_intro (hfew) ?_
    simp only [go_sem]
    refine t_call_intro (lives_den) ?_
    simp only [go_sem]
    simp only [aresult, ares, go_sem]
end Go.Proofs.Ytobgbmklepcblaa
