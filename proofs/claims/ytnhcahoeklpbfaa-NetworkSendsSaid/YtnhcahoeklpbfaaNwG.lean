/- The package network: copies with room, messages sent and duplicated; chapter 40: the law NetworkKeeps. -/
import Derived.Test.YtnhcahoeklpbfaaNwF
set_option linter.unusedSimpArgs false
set_option linter.unusedVariables false
namespace Go.Proofs.Ytnhcahoeklpbfaa
open Go Ab
attribute [local irreducible] awp aops aop asoft aeff aloop acall acallI acallT
attribute [local go_sem] itemsA

set_option maxRecDepth 100000 in
set_option maxHeartbeats 1000000 in
theorem copied_iden (l : List Msg) (n : Nat) (hl : Msgs.fit l) (hn : n * 88 ≤ 140737488351232) : IDen Try.prog 18 [.a (.slice 9 (l.map Msg.row)), .a (.int .i64 n)] [] [] (.own 0) [] [⟨25, 9, l.map Msg.row, false⟩] false := by
  obtain ⟨h1, h2⟩ := hl
  have ew : IntKind.i64.wrap ((l.length : Int) + (n : Int)) = ((l.length + n : Nat) : Int) := by rw [IntKind.wrap_i64]; omega
  refine iden_of_body k_network_copied ⟨rfl, Nat.le_of_ble_eq_true rfl, ⟨by simp, (by simp), rfl⟩, thaw_intro ?_⟩
  unfold c_network_copied
  simp only [ew, go_sem]
  refine t_gate_intro (by simp; omega) ?_
  simp only [go_sem]
  have ec : copied (List.replicate l.length [.int .i64 0, .int .i64 0, .int .i64 0, .int .i64 0, .int .i64 0, .int .i64 0, .int .i64 0, .bool false, .nils]) (l.map Msg.row) 0 = l.map Msg.row := copied_all _ _ (by simp)
  simp only [ec, go_sem]
  refine t_loopO_intro [] (fun k : Nat => k ≤ l.length) (fun k => l.length - k) 0 [6, 19, 20, 21, 22, 23, 24, 25, 26, 27, 28, 29, 30] (fun k => [(19, .a (.int .i64 k))]) (fun k => []) (fun k => [⟨25, 9, l.map Msg.row, true⟩]) (by omega) (by simp) (by simp) (by simp) (by simp) (fun k => by simp) (fun k => by simp) (fun k => by simp) ?_
  intro k hk st_ hst
  simp only [go_sem] at hst
  subst hst
  by_cases hlt : k < l.length
  · have h3 : (k : Int) < (l.length : Int) := by omega
    have e := getD_map Msg.row l k hlt
    have er : l[k].row.length = 9 := rfl
    have et : l[k].row.take 9 = l[k].row := rfl
    have ed : l[k].row.drop 9 = [] := rfl
    have eset : (l.map Msg.row).set k l[k].row = l.map Msg.row := by
      have := set_same (l.map Msg.row) k (by simpa using hlt)
      simpa using this
    have ekn := wrap1 k l.length hlt (by omega)
    simp only [h3, e, et, hlt, go_sem]
    refine t_call_intro (clone_den l[k] (h2 _ (List.getElem_mem hlt))) ?_
    simp only [h3, e, et, er, ed, eset, hlt, go_sem]
    simp only [ekn, go_sem]
    refine t_roundO (k + 1) (by omega) (by omega) (by simp) (by simp) (by simp) (by simp) (by simp)
  · have h3 : ¬ (k : Int) < (l.length : Int) := by omega
    simp only [h3, go_sem]
    simp only [aresultI, aresI, go_sem]

theorem gate88b (n : Nat) (h : n ≤ 1000) : (n + 1 + (n + 1) / 4 + 192) * 88 ≤ 281474976710656 ∧ n ≤ 9223372036854775806 := by omega
theorem gate88 (n : Nat) (h : n ≤ 1000) : (n + n / 4 + 192) * 88 ≤ 281474976710656 ∧ n ≤ 9223372036854775807 := by omega

set_option maxRecDepth 100000 in
set_option maxHeartbeats 1000000 in
theorem dup_den (l : List Msg) (i : Nat) (hi : i < l.length) (hs : l.length < 256) (hl : Msgs.fit l) : PDen Try.prog 12 [.a (.slice 9 (l.map Msg.row)), .a (.int .i64 i)] (.tup [.a (.slice 9 ((l ++ [l[i]]).map Msg.row)), .a (.int .i64 0)]) := by
  have h1 : ¬ (i : Int) < 0 := by omega
  have h2 : ¬ (l.length : Int) ≤ (i : Int) := by omega
  have h3 : (i : Int) < (l.length : Int) := by omega
  have h4 : ¬ (256 : Int) ≤ (l.length : Int) := by omega
  have e := getD_map Msg.row l i hi
  have er : l[i].row.length = 9 := rfl
  have et : l[i].row.take 9 = l[i].row := rfl
  refine den_of_body k_network_Duplicate ⟨rfl, Nat.le_of_ble_eq_true rfl, thaw_intro ?_⟩
  unfold c_network_Duplicate
  simp only [h1, h2, h3, h4, e, er, et, go_sem]
  refine t_callF_intro (copied_iden l 1 hl (by omega)) ?_
  simp only [h1, h2, h3, e, er, et, go_sem]
  refine t_call_intro (clone_den l[i] (hl.at_ i hi)) ?_
  simp only [h1, h2, h3, e, er, et, go_sem]
  refine t_gate_intro (gate88b l.length (by omega)) ?_
  simp only [go_sem]
  simp only [aresult, ares, go_sem]
  rw [List.map_append]; rfl
set_option maxRecDepth 100000 in
set_option maxHeartbeats 1000000 in
theorem dup_full (l : List Msg) (i : Nat) (hi : i < l.length) (hs : 256 ≤ l.length) : PDen Try.prog 12 [.a (.slice 9 (l.map Msg.row)), .a (.int .i64 i)] (.tup [.a .nils, .a (.int .i64 17)]) := by
  have h1 : ¬ (i : Int) < 0 := by omega
  have h2 : ¬ (l.length : Int) ≤ (i : Int) := by omega
  have h3 : (i : Int) < (l.length : Int) := by omega
  have h4 : (256 : Int) ≤ (l.length : Int) := by omega
  refine den_of_body k_network_Duplicate ⟨rfl, Nat.le_of_ble_eq_true rfl, thaw_intro ?_⟩
  unfold c_network_Duplicate
  simp only [h1, h2, h3, h4, go_sem]
  simp only [aresult, ares, go_sem]
set_option maxRecDepth 100000 in
set_option maxHeartbeats 1000000 in
theorem dup_out (l : List Msg) (i : Int) (hi : i < 0 ∨ (l.length : Int) ≤ i) : PDen Try.prog 12 [.a (.slice 9 (l.map Msg.row)), .a (.int .i64 i)] (.tup [.a .nils, .a (.int .i64 9)]) := by
  refine den_of_body k_network_Duplicate ⟨rfl, Nat.le_of_ble_eq_true rfl, thaw_intro ?_⟩
  unfold c_network_Duplicate
  simp only [go_sem]
  first | refine t_case_dec (fun h1 => ?_) (fun h1 => ?_) | refine t_case_ndec (fun h1 => ?_) (fun h1 => ?_) | refine t_case_eqI (fun h1 => ?_) (fun h1 => ?_) | refine t_case_neI (fun h1 => ?_) (fun h1 => ?_) | refine t_case_not (fun h1 => ?_) (fun h1 => ?_) | refine t_case_intro (fun h1 => ?_) (fun h1 => ?_)
  · simp only [go_sem]
    simp only [aresult, ares, go_sem]
  · have h2 : (l.length : Int) ≤ i := by omega
    simp only [h2, go_sem]
    simp only [aresult, ares, go_sem]
set_option maxRecDepth 100000 in
set_option maxHeartbeats 1000000 in
theorem drop_den (l : List Msg) (i : Nat) (hi : i < l.length) (hl : Msgs.fit l) : PDen Try.prog 10 [.a (.slice 9 (l.map Msg.row)), .a (.int .i64 i)]
    (.tup [.a (.slice 9 ((l.eraseIdx i).map Msg.row)), .a (.int .i64 0)]) := by
  have h1 : ¬ (i : Int) < 0 := by omega
  have h2 : ¬ (l.length : Int) ≤ (i : Int) := by omega
  refine den_of_body k_network_Drop ⟨rfl, Nat.le_of_ble_eq_true rfl, thaw_intro ?_⟩
  unfold c_network_Drop
  simp only [h1, h2, go_sem]
  refine t_call_intro (without_den l i hi hl) ?_
  simp only [h1, h2, go_sem]
  simp only [aresult, ares, go_sem]
set_option maxRecDepth 100000 in
set_option maxHeartbeats 1000000 in
theorem drop_out (l : List Msg) (i : Int) (hi : i < 0 ∨ (l.length : Int) ≤ i) : PDen Try.prog 10 [.a (.slice 9 (l.map Msg.row)), .a (.int .i64 i)] (.tup [.a .nils, .a (.int .i64 9)]) := by
  refine den_of_body k_network_Drop ⟨rfl, Nat.le_of_ble_eq_true rfl, thaw_intro ?_⟩
  unfold c_network_Drop
  simp only [go_sem]
  first | refine t_case_dec (fun h1 => ?_) (fun h1 => ?_) | refine t_case_ndec (fun h1 => ?_) (fun h1 => ?_) | refine t_case_eqI (fun h1 => ?_) (fun h1 => ?_) | refine t_case_neI (fun h1 => ?_) (fun h1 => ?_) | refine t_case_not (fun h1 => ?_) (fun h1 => ?_) | refine t_case_intro (fun h1 => ?_) (fun h1 => ?_)
  · simp only [go_sem]
    simp only [aresult, ares, go_sem]
  · have h2 : (l.length : Int) ≤ i := by omega
    simp only [h2, go_sem]
    simp only [aresult, ares, go_sem]
set_option maxRecDepth 100000 in
set_option maxHeartbeats 1000000 in
theorem send_den (a b : List Msg) (ha : Msgs.fit a) (hb : Msgs.fit b) (hs : a.length + b.length ≤ 1000) : PDen Try.prog 8 [.a (.slice 9 (a.map Msg.row)), .a (.slice 9 (b.map Msg.row))] (.a (.slice 9 (((a ++ b).take 256).map Msg.row))) := by
  refine den_of_body k_network_Send ⟨rfl, Nat.le_of_ble_eq_true rfl, thaw_intro ?_⟩
  unfold c_network_Send
  simp only [go_sem]
  refine t_callF_intro (copied_iden a b.length ha (by omega)) ?_
  simp only [go_sem]
  refine t_call_intro (copied_den b 0 hb (by omega)) ?_
  simp only [go_sem]
  refine t_gate_intro (gate88 (a.length + b.length) (by omega)) ?_
  simp only [go_sem]
  obtain ⟨N, hm, em, et⟩ : ∃ N : Nat, N ≤ a.length + b.length ∧ (if (256 : Int) < ((a.length + b.length : Nat) : Int) then (256 : Int) else ((a.length + b.length : Nat) : Int)) = (N : Int) ∧ (a.map Msg.row ++ b.map Msg.row).take N = ((a ++ b).take 256).map Msg.row := by
    by_cases h : (256 : Int) < ((a.length + b.length : Nat) : Int)
    · exact ⟨256, by omega, by rw [if_pos h]; rfl, by rw [← List.map_append, ← List.map_take]⟩
    · exact ⟨_, Nat.le_refl _, by rw [if_neg h], by rw [← List.map_append, ← List.map_take, List.take_of_length_le (by simp), List.take_of_length_le (by simp; omega)]⟩
  refine t_gate_intro (by rw [em]; omega) ?_
  simp only [em, et, go_sem]
  simp only [aresult, ares, go_sem]
end Go.Proofs.Ytnhcahoeklpbfaa
