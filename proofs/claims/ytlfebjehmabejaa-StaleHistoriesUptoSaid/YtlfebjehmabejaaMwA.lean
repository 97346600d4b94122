/- The package mvstore: the search, copies of stores, rows laid in at the end, writes that can be applied. -/
import Derived.Test.YtlfebjehmabejaaMg
import Derived.Test.YtlfebjehmabejaaAbP
set_option linter.unusedSimpArgs false
set_option linter.unusedVariables false
namespace Go.Proofs.Ytlfebjehmabejaa
open Go Ab
attribute [local irreducible] awp aops aop asoft aeff aloop acall acallI acallT
attribute [local go_sem] Vl.row Ver.row Row.row Store.row Rg.row Pr.row

set_option maxRecDepth 100000 in
set_option maxHeartbeats 400000 in
theorem clVers_den (l : List Ver) (hl : l.length * 40 ≤ 140737488351232) : PDen Try.prog 51 [.a (.slice 4 (l.map Ver.row))] (.a (.slice 4 (l.map Ver.row))) := by
  refine PDen.nn ?_ fun h0 => ?_
  · refine den_of_body k_slices_Clone_api_Version_api_Version ⟨rfl, Nat.le_of_ble_eq_true rfl, thaw_intro ?_⟩
    unfold c_slices_Clone_api_Version_api_Version
    simp only [go_sem]
    refine t_gate_intro (by simp; omega) ?_
    simp only [go_sem]
    simp only [aresult, ares, go_sem]
  · have h1 : l = [] := by simpa using h0
    subst h1
    refine PDen.resA (x := .nils) ?_ (RLe.nils 4)
    refine den_of_body k_slices_Clone_api_Version_api_Version ⟨rfl, Nat.le_of_ble_eq_true rfl, thaw_intro ?_⟩
    unfold c_slices_Clone_api_Version_api_Version
    simp only [go_sem]
    simp only [aresult, ares, go_sem]

def cloneRows (rows : List Row) (k : Nat) : List (List Atom) := (rows.take k).map Row.row ++ List.replicate (rows.length - k) [.str ⟨#[]⟩, .nils]
theorem cloneRows_zero (rows : List Row) : cloneRows rows 0 = List.replicate rows.length [.str ⟨#[]⟩, .nils] := by simp [cloneRows]
theorem cloneRows_len (rows : List Row) (k : Nat) (h : k ≤ rows.length) : (cloneRows rows k).length = rows.length := by simp [cloneRows]; omega
theorem cloneRows_all (rows : List Row) (k : Nat) (h : rows.length ≤ k) : cloneRows rows k = rows.map Row.row := by
  have : rows.length - k = 0 := by omega
  simp [cloneRows, this, List.take_of_length_le h]
theorem cloneRows_at (rows : List Row) (k : Nat) (h : k < rows.length) : (cloneRows rows k).getD k [] = [.str ⟨#[]⟩, .nils] := by
  unfold cloneRows
  rw [List.getD_eq_getElem?_getD, List.getElem?_append_right (by simp; omega)]
  have e : k - (List.map Row.row (List.take k rows)).length = 0 := by simp; omega
  rw [e, List.getElem?_replicate, if_pos (by omega)]; rfl
theorem cloneRows_set (rows : List Row) (k : Nat) (h : k < rows.length) : (cloneRows rows k).set k rows[k].row = cloneRows rows (k + 1) := by
  unfold cloneRows
  have e1 : (List.map Row.row (List.take k rows)).length = k := by simp; omega
  rw [List.set_append_right _ _ (by omega), e1, Nat.sub_self]
  have e2 : rows.length - k = (rows.length - (k + 1)) + 1 := by omega
  rw [e2, List.replicate_succ, List.set_cons_zero, List.take_succ_eq_append_getElem h, List.map_append, List.append_assoc]; rfl
theorem rowx (r : Row) : r.row = [.str r.key, .slice 4 (r.vs.map Ver.row)] := rfl

set_option maxRecDepth 100000 in
set_option maxHeartbeats 2000000 in
theorem clone_iden (s : Store) (hb : s.rows.length * 40 ≤ 140737488351232) (hv : ∀ r ∈ s.rows, r.vs.length * 40 ≤ 140737488351232) (x1 x2 x3 y1 y2 y3 : Atom) :
    IDen Try.prog 25 [.agg s.row] [[.a x1, .a x2, .a x3], [.a y1, .a y2, .a y3]] [] (.mix [.a (.int .i64 s.fl), .a (.int .i64 s.la), .own 0]) [[.a x1, .a x2, .a x3], [.a y1, .a y2, .a y3]] [⟨52, 2, s.rows.map Row.row, true⟩] false := by
  refine iden_of_body k_mvstore_clone_i ⟨rfl, Nat.le_of_ble_eq_true rfl, ⟨by simp, (by simp), rfl⟩, thaw_intro ?_⟩
  unfold c_mvstore_clone_i
  simp only [go_sem]
  refine t_gate_intro (by simp; omega) ?_
  simp only [go_sem]
  have hz := cloneRows_zero s.rows
  refine t_loopO_intro [] (fun k : Nat => k ≤ s.rows.length) (fun k => s.rows.length - k) 0 [4, 5, 13, 14, 15, 16, 17, 18, 19, 20, 21, 22, 23, 24, 25, 26, 27] (fun k => [(13, .a (.int .i64 k))]) (fun k => [[.a x1, .a x2, .a x3], [.a y1, .a y2, .a y3], [.a (.int .i64 s.fl), .a (.int .i64 s.la), .a (.slice 2 (s.rows.map Row.row))], [.a (.int .i64 0), .a (.int .i64 0), .a .nils]]) (fun k => [⟨52, 2, cloneRows s.rows k, true⟩]) (by omega) (by simp) (by first | (simp; done) | simp [hz]) (by first | (simp; done) | simp [hz]) (by first | (simp; done) | simp [hz]) (fun k => by first | (simp; done) | simp [hz]) (fun k => by first | (simp; done) | simp [hz]) (fun k => by first | (simp; done) | simp [hz]) ?_
  intro k hk st_ hst
  simp only [go_sem] at hst
  subst hst
  by_cases hlt : k < s.rows.length
  · have h1 : (k : Int) < (s.rows.length : Int) := by omega
    have e := getD_map Row.row s.rows k hlt
    have er := rowx s.rows[k]
    have ew := wrap1 k s.rows.length hlt (by omega)
    have e2 := cloneRows_len s.rows k hk
    have e3 := cloneRows_at s.rows k hlt
    have e4 := cloneRows_set s.rows k hlt
    rw [rowx] at e4
    simp only [h1, e, er, go_sem]
    refine t_call_intro (clVers_den s.rows[k].vs (hv _ (List.getElem_mem hlt))) ?_
    simp only [e2, h1, hlt, e3, e4, ew, go_sem]
    refine t_roundO (k + 1) (by omega) (by omega) (by simp) (by simp) (by simp) (by simp) (by simp)
  · have h1 : ¬ (k : Int) < (s.rows.length : Int) := by omega
    have ek := cloneRows_all s.rows k (by omega)
    simp only [h1, ek, go_sem]
    simp [aresultI, aresI, aggI, atomsOf, atomOf]

set_option maxRecDepth 100000 in
set_option maxHeartbeats 2000000 in
theorem clone_den (s : Store) (hb : s.rows.length * 40 ≤ 140737488351232) (hv : ∀ r ∈ s.rows, r.vs.length * 40 ≤ 140737488351232) :
    PDen Try.prog 25 [.agg s.row] (.agg s.row) := by
  refine den_of_body k_mvstore_clone ⟨rfl, Nat.le_of_ble_eq_true rfl, thaw_intro ?_⟩
  unfold c_mvstore_clone
  simp only [go_sem]
  refine t_gate_intro (by simp; omega) ?_
  simp only [go_sem]
  have hz := cloneRows_zero s.rows
  refine t_loopO_intro [] (fun k : Nat => k ≤ s.rows.length) (fun k => s.rows.length - k) 0 [4, 5, 13, 14, 15, 16, 17, 18, 19, 20, 21, 22, 23, 24, 25, 26, 27] (fun k => [(13, .a (.int .i64 k))]) (fun k => [[.a (.int .i64 s.fl), .a (.int .i64 s.la), .a (.slice 2 (s.rows.map Row.row))], [.a (.int .i64 0), .a (.int .i64 0), .a .nils]]) (fun k => [⟨52, 2, cloneRows s.rows k, true⟩]) (by omega) (by simp) (by first | (simp; done) | simp [hz]) (by first | (simp; done) | simp [hz]) (by first | (simp; done) | simp [hz]) (fun k => by first | (simp; done) | simp [hz]) (fun k => by first | (simp; done) | simp [hz]) (fun k => by first | (simp; done) | simp [hz]) ?_
  intro k hk st_ hst
  simp only [go_sem] at hst
  subst hst
  by_cases hlt : k < s.rows.length
  · have h1 : (k : Int) < (s.rows.length : Int) := by omega
    have e := getD_map Row.row s.rows k hlt
    have er := rowx s.rows[k]
    have ew := wrap1 k s.rows.length hlt (by omega)
    have e2 := cloneRows_len s.rows k hk
    have e3 := cloneRows_at s.rows k hlt
    have e4 := cloneRows_set s.rows k hlt
    rw [rowx] at e4
    simp only [h1, e, er, go_sem]
    refine t_call_intro (clVers_den s.rows[k].vs (hv _ (List.getElem_mem hlt))) ?_
    simp only [e2, h1, hlt, e3, e4, ew, go_sem]
    refine t_roundO (k + 1) (by omega) (by omega) (by simp) (by simp) (by simp) (by simp) (by simp)
  · have h1 : ¬ (k : Int) < (s.rows.length : Int) := by omega
    have ek := cloneRows_all s.rows k (by omega)
    simp only [h1, ek, go_sem]
    simp only [aresult, ares, go_sem]


theorem gate40 (m q : Nat) (h1 : q ≤ m) (h2 : m * 40 ≤ 140737488351232) : (m + q + 192) * 40 ≤ 281474976710656 := by omega
theorem gate40b (m : Nat) (h : (m + 1) * 40 ≤ 140737488351232) : m ≤ 9223372036854775806 := by omega
theorem ins_gate (n : Nat) (h : (n + 1) * 40 ≤ 140737488351232) : (n + 1 + (n + 1) / 4 + 192) * 40 ≤ 281474976710656 ∧ n ≤ 9223372036854775806 :=
  And.intro (gate40 (n + 1) ((n + 1) / 4) (Nat.div_le_self (n + 1) 4) h) (gate40b n h)

set_option maxRecDepth 100000 in
set_option maxHeartbeats 2000000 in
/-- A row is laid in at the end. -/
theorem insEnd (H : List (List AV)) (rows : List Row) (x : Row) (hl : (rows.length + 1) * 40 ≤ 140737488351232) (hb : (H.map (·.map (inval 0))).all (·.all (Ab.boundV H.length 1)) = true) :
    IDen Try.prog 27 [.own 0, .a (.int .i64 rows.length), .a (.slice 2 [x.row])] H [⟨52, 2, rows.map Row.row, true⟩] (.own 0) (H.map (·.map (inval 0))) [⟨52, 2, (rows ++ [x]).map Row.row, true⟩] false := by
  have hn : ((rows.length : Int) == (rows.length : Int)) = true := by simp
  have h1 : (((1 : Nat) : Int) == 0) = false := by decide
  refine iden_of_body k_slices_Insert_api_Row_api_Row ⟨rfl, Nat.le_of_ble_eq_true rfl, ⟨by simp, (by simpa using hb), rfl⟩, thaw_intro ?_⟩
  unfold c_slices_Insert_api_Row_api_Row
  have g1 := ins_gate rows.length hl
  simp only [go_sem]
  refine t_gate_intro (by first | (simp; done) | exact ⟨rfl, rfl, Int.le_refl _⟩) ?_
  simp only [hn, h1, go_sem]
  refine t_gate_intro g1 ?_
  simp only [hn, h1, go_sem]
  refine ⟨by simp [aresultI, aresI], List.take_of_length_le (by simp), by simp [Row.row]⟩
end Go.Proofs.Ytlfebjehmabejaa
