/- The packages state and mvstore: valid states, new stores, the number of versions. -/
import Derived.Test.YtlfebjehmabejaaMwB
set_option linter.unusedSimpArgs false
set_option linter.unusedVariables false
namespace Go.Proofs.Ytlfebjehmabejaa
open Go Ab
attribute [local irreducible] awp aops aop asoft aeff aloop acall acallI acallT
attribute [local go_sem] Vl.row Ver.row Row.row Store.row Rg.row Pr.row

set_option maxRecDepth 100000 in
set_option maxHeartbeats 2000000 in
theorem sorted_den (l : List Pr) (hl : l.length * 40 ≤ 140737488351232) (hf : ∀ p ∈ l, p.fit) : PDen Try.prog 35 [.a (.slice 4 (l.map Pr.row))] (.a (.bool (writesGo none l))) := by
  refine den_of_body k_state_sorted ⟨rfl, Nat.le_of_ble_eq_true rfl, thaw_intro ?_⟩
  unfold c_state_sorted
  simp only [go_sem]
  refine t_loop_intro (fun k : Nat => k ≤ l.length ∧ (writesGo none l = writesGo (pp l k) (l.drop k))) (fun k => l.length - k) 0 [2, 3, 4, 7, 8, 9, 10, 11, 12, 13, 14, 15, 16, 17, 18, 19, 20, 21, 22, 23, 24, 25, 26, 27, 28, 29, 30, 31, 32, 33, 34, 35, 36, 37] (fun k => [(7, .a (.int .i64 k))]) ⟨by omega, by rfl⟩ (by simp) (fun k => by simp) rfl ?_
  intro k hk0 fr_ hfr
  have hk : k ≤ l.length := hk0.1
  have hall := hk0.2
  clear hk0
  simp only [go_sem] at hfr
  subst hfr
  by_cases hlt : k < l.length
  · have h1 : (k : Int) < (l.length : Int) := by omega
    have e := getD_map Pr.row l k hlt
    have er : l[k].row = [.str l[k].key, .int .i64 l[k].v.kind, .int .i64 l[k].v.n, .str l[k].v.s] := rfl
    have ew := wrap1 k l.length hlt (by omega)
    have es := writesGo_step l k hlt
    have hfk := hf _ (List.getElem_mem hlt)
    simp only [h1, e, er, go_sem]
    refine t_call_intro (keyV_den l[k].key hfk.1) ?_
    simp only [go_sem]
    first | refine t_case_dec (fun h2 => ?_) (fun h2 => ?_) | refine t_case_ndec (fun h2 => ?_) (fun h2 => ?_) | refine t_case_eqI (fun h2 => ?_) (fun h2 => ?_) | refine t_case_neI (fun h2 => ?_) (fun h2 => ?_) | refine t_case_not (fun h2 => ?_) (fun h2 => ?_) | refine t_case_intro (fun h2 => ?_) (fun h2 => ?_)
    rotate_left
    · simp only [go_sem]
      simp only [aresult, ares, go_sem]
      rw [hall, es, h2]; simp
    simp only [go_sem]
    refine t_call_intro (valV_den l[k].v hfk.2) ?_
    simp only [go_sem]
    first | refine t_case_dec (fun h3 => ?_) (fun h3 => ?_) | refine t_case_ndec (fun h3 => ?_) (fun h3 => ?_) | refine t_case_eqI (fun h3 => ?_) (fun h3 => ?_) | refine t_case_neI (fun h3 => ?_) (fun h3 => ?_) | refine t_case_not (fun h3 => ?_) (fun h3 => ?_) | refine t_case_intro (fun h3 => ?_) (fun h3 => ?_)
    rotate_left
    · simp only [go_sem]
      simp only [aresult, ares, go_sem]
      rw [hall, es, h3]; simp
    simp only [go_sem]
    first | refine t_case_dec (fun h4 => ?_) (fun h4 => ?_) | refine t_case_ndec (fun h4 => ?_) (fun h4 => ?_) | refine t_case_eqI (fun h4 => ?_) (fun h4 => ?_) | refine t_case_neI (fun h4 => ?_) (fun h4 => ?_) | refine t_case_not (fun h4 => ?_) (fun h4 => ?_) | refine t_case_intro (fun h4 => ?_) (fun h4 => ?_)
    rotate_left
    · have hk0 : k = 0 := by omega
      have epp : pp l k = none := by rw [hk0]; rfl
      simp only [ew, go_sem]
      refine t_round (k + 1) ⟨by omega, by rw [hall, es, h2, h3, epp]; simp [prStep, ← epp]⟩ (by omega) (by simp) rfl rfl (by simp) rfl
    have hk1 : 0 < k := by omega
    have ew' := unwrap1 k hk1 (by omega)
    have hlt1 : k - 1 < l.length := by omega
    have h8 : ((k - 1 : Nat) : Int) < (l.length : Int) := by omega
    have e1 := getD_map Pr.row l (k - 1) hlt1
    have er1 : l[k-1].row = [.str l[k-1].key, .int .i64 l[k-1].v.kind, .int .i64 l[k-1].v.n, .str l[k-1].v.s] := rfl
    have epp : pp l k = some l[k-1] := by
      obtain ⟨j, rfl⟩ : ∃ j, k = j + 1 := ⟨k - 1, by omega⟩
      simp [pp]
    simp only [ew', h8, e1, er1, go_sem]
    first | refine t_case_dec (fun h9 => ?_) (fun h9 => ?_) | refine t_case_ndec (fun h9 => ?_) (fun h9 => ?_) | refine t_case_eqI (fun h9 => ?_) (fun h9 => ?_) | refine t_case_neI (fun h9 => ?_) (fun h9 => ?_) | refine t_case_not (fun h9 => ?_) (fun h9 => ?_) | refine t_case_intro (fun h9 => ?_) (fun h9 => ?_)
    rotate_left
    · simp only [go_sem]
      simp only [aresult, ares, go_sem]
      rw [hall, es, epp]; simp only [prStep, strGt_lt]; simp [h9]
    · simp only [ew, go_sem]
      refine t_round (k + 1) ⟨by omega, by rw [hall, es, h2, h3, epp]; simp only [prStep, strGt_lt]; simp [h9]⟩ (by omega) (by simp) rfl rfl (by simp) rfl
  · have h1 : ¬ (k : Int) < (l.length : Int) := by omega
    simp only [h1, go_sem]
    simp only [aresult, ares, go_sem]
    rw [List.drop_eq_nil_of_le (by omega)] at hall
    rw [hall]; rfl

set_option maxRecDepth 100000 in
theorem absent_den (p : Pr) : PDen Try.prog 38 [.agg p.row] (.a (.bool (p.v.kind == 0))) := by
  refine den_of_body k_state_absent ⟨rfl, Nat.le_of_ble_eq_true rfl, thaw_intro ?_⟩
  unfold c_state_absent
  simp only [go_sem]
  simp only [aresult, ares, go_sem]
theorem b_absent : bodied Try.prog 38 = true := by kernel_rfl
def idxGo : Nat → List Pr → Int
  | _, [] => -1
  | i, x :: xs => if x.v.kind = 0 then (i : Int) else idxGo (i + 1) xs
theorem idxGo_any : ∀ (l : List Pr) (i : Nat), decide (0 ≤ idxGo i l) = l.any (fun p => p.v.kind == 0)
  | [], i => by simp [idxGo]
  | x :: xs, i => by
    simp only [idxGo, List.any_cons]
    by_cases h : x.v.kind = 0
    · simp [h]
    · have := idxGo_any xs (i + 1)
      simp [h, this]
theorem idxGo_step (l : List Pr) (k : Nat) (h : k < l.length) : idxGo k (l.drop k) = if l[k].v.kind = 0 then (k : Int) else idxGo (k + 1) (l.drop (k + 1)) := by
  rw [List.drop_eq_getElem_cons h]; rfl

set_option maxRecDepth 100000 in
set_option maxHeartbeats 1000000 in
theorem index_den (l : List Pr) (hl : l.length * 40 ≤ 140737488351232) : PDen Try.prog 72 [.a (.slice 4 (l.map Pr.row)), .clo 38 []] (.a (.int .i64 (idxGo 0 l))) := by
  refine den_of_body k_slices_IndexFunc_api_Pair_api_Pair ⟨rfl, Nat.le_of_ble_eq_true rfl, thaw_intro ?_⟩
  unfold c_slices_IndexFunc_api_Pair_api_Pair
  simp only [go_sem]
  refine t_loop_intro (fun k : Nat => k ≤ l.length ∧ (idxGo 0 l = idxGo k (l.drop k))) (fun k => l.length - k) 0 [4, 5, 8, 9, 10, 11, 12, 13, 14, 15, 16, 17, 18] (fun k => [(8, .a (.int .i64 k))]) ⟨by omega, by rfl⟩ (by simp) (fun k => by simp) rfl ?_
  intro k hk0 fr_ hfr
  have hk : k ≤ l.length := hk0.1
  have hall := hk0.2
  clear hk0
  simp only [go_sem] at hfr
  subst hfr
  by_cases hlt : k < l.length
  · have h1 : (k : Int) < (l.length : Int) := by omega
    have e := getD_map Pr.row l k hlt
    have er : l[k].row = [.str l[k].key, .int .i64 l[k].v.kind, .int .i64 l[k].v.n, .str l[k].v.s] := rfl
    have ew := wrap1 k l.length hlt (by omega)
    have es := idxGo_step l k hlt
    have hab := absent_den l[k]
    rw [er] at hab
    simp only [h1, e, er, b_absent, go_sem]
    refine t_call_intro (hab) ?_
    simp only [go_sem]
    first | refine t_case_dec (fun h2 => ?_) (fun h2 => ?_) | refine t_case_ndec (fun h2 => ?_) (fun h2 => ?_) | refine t_case_eqI (fun h2 => ?_) (fun h2 => ?_) | refine t_case_neI (fun h2 => ?_) (fun h2 => ?_) | refine t_case_not (fun h2 => ?_) (fun h2 => ?_) | refine t_case_intro (fun h2 => ?_) (fun h2 => ?_)
    · simp only [go_sem]
      simp only [aresult, ares, go_sem]
      rw [hall, es, if_pos h2]
    · simp only [ew, go_sem]
      refine t_round (k + 1) ⟨by omega, by rw [hall, es, if_neg h2]⟩ (by omega) (by simp) rfl rfl (by simp) rfl
  · have h1 : ¬ (k : Int) < (l.length : Int) := by omega
    simp only [h1, go_sem]
    simp only [aresult, ares, go_sem]
    rw [List.drop_eq_nil_of_le (by omega)] at hall
    rw [hall]; rfl
set_option maxRecDepth 100000 in
theorem contains_den (l : List Pr) (hl : l.length * 40 ≤ 140737488351232) : PDen Try.prog 60 [.a (.slice 4 (l.map Pr.row)), .clo 38 []] (.a (.bool (l.any fun p => p.v.kind == 0))) := by
  refine den_of_body k_slices_ContainsFunc_api_Pair_api_Pair ⟨rfl, Nat.le_of_ble_eq_true rfl, thaw_intro ?_⟩
  unfold c_slices_ContainsFunc_api_Pair_api_Pair
  simp only [go_sem]
  refine t_call_intro (index_den l hl) ?_
  simp only [go_sem]
  simp only [aresult, ares, go_sem]
  rw [idxGo_any]
def stateV (l : List Pr) : Bool := writesGo none l && !(l.any fun p => p.v.kind == 0)
set_option maxRecDepth 100000 in
theorem stateV_den (l : List Pr) (hl : l.length * 40 ≤ 140737488351232) (hf : ∀ p ∈ l, p.fit) : PDen Try.prog 34 [.a (.slice 4 (l.map Pr.row))] (.a (.bool (stateV l))) := by
  refine den_of_body k_state_Valid ⟨rfl, Nat.le_of_ble_eq_true rfl, thaw_intro ?_⟩
  unfold c_state_Valid
  simp only [go_sem]
  refine t_call_intro (sorted_den l hl hf) ?_
  simp only [go_sem]
  first | refine t_case_dec (fun h => ?_) (fun h => ?_) | refine t_case_ndec (fun h => ?_) (fun h => ?_) | refine t_case_eqI (fun h => ?_) (fun h => ?_) | refine t_case_neI (fun h => ?_) (fun h => ?_) | refine t_case_not (fun h => ?_) (fun h => ?_) | refine t_case_intro (fun h => ?_) (fun h => ?_)
  · simp only [go_sem]
    refine t_call_intro (contains_den l hl) ?_
    simp only [go_sem]
    simp only [aresult, ares, go_sem]
    simp [stateV, h]
  · simp only [go_sem]
    simp only [aresult, ares, go_sem]
    simp [stateV, h]

def newRow (at_ : Int) (p : Pr) : Row := ⟨p.key, [⟨at_, p.v⟩]⟩
def newS (l : List Pr) (at_ : Int) : Store := ⟨at_, at_, l.map (newRow at_)⟩
def newRows (l : List Pr) (at_ : Int) (k : Nat) : List (List Atom) := ((l.take k).map (newRow at_)).map Row.row
theorem newRows_zero (l : List Pr) (at_ : Int) : newRows l at_ 0 = [] := by simp [newRows]
theorem newRows_len (l : List Pr) (at_ : Int) (k : Nat) : (newRows l at_ k).length ≤ k := by simp [newRows]; omega
theorem newRows_step (l : List Pr) (at_ : Int) (k : Nat) (h : k < l.length) : newRows l at_ (k + 1) = newRows l at_ k ++ [[.str l[k].key, .slice 4 [[.int .i64 at_, .int .i64 l[k].v.kind, .int .i64 l[k].v.n, .str l[k].v.s]]]] := by
  unfold newRows
  rw [List.take_succ_eq_append_getElem h, List.map_append, List.map_append]; rfl
def zeroS : Store := ⟨0, 0, []⟩
theorem zeroS_le : VLe (.agg [.int .i64 0, .int .i64 0, .nils]) (.agg zeroS.row) := VLe.agg ⟨RLe.refl _, RLe.refl _, RLe.nils 2, trivial⟩
def newOk (l : List Pr) (at_ : Int) : Bool := stateV l && decide (0 ≤ at_) && decide (at_ ≤ 1099511627776)
def newA (l : List Pr) (at_ : Int) : AV := if newOk l at_ = true then .tup [.agg (newS l at_).row, .a (.int .i64 0)] else .tup [.agg zeroS.row, .a (.int .i64 1)]

set_option maxRecDepth 100000 in
set_option maxHeartbeats 2000000 in
theorem new_den (l : List Pr) (at_ : Int) (hl : l.length * 40 ≤ 140737488351232) (hf : ∀ p ∈ l, p.fit) : PDen Try.prog 12 [.a (.slice 4 (l.map Pr.row)), .a (.int .i64 at_)] (newA l at_) := by
  by_cases hok : newOk l at_ = true
  · have hok' := hok
    simp only [newOk, Bool.and_eq_true, decide_eq_true_eq] at hok'
    obtain ⟨⟨hv, ha⟩, hb⟩ := hok'
    have hs := stateV_den l hl hf
    rw [hv] at hs
    have n1 : ¬ at_ < 0 := by omega
    have n2 : ¬ 1099511627776 < at_ := by omega
    have ez := newRows_zero l at_
    rw [show newA l at_ = .tup [.agg (newS l at_).row, .a (.int .i64 0)] by simp [newA, hok]]
    refine den_of_body k_mvstore_New ⟨rfl, Nat.le_of_ble_eq_true rfl, thaw_intro ?_⟩
    unfold c_mvstore_New
    simp only [go_sem]
    refine t_call_intro (hs) ?_
    simp only [n1, n2, go_sem]
    refine t_loopO_intro [.cell 1 2 52 2] (fun k : Nat => k ≤ l.length) (fun k => l.length - k) 0 [8, 26, 27, 28, 29, 30, 31, 32, 33, 34, 35, 36, 37, 38, 39, 40, 41, 42, 43] (fun k => [(26, .a (.int .i64 k))]) (fun k => [[.a (.int .i64 0), .a (.int .i64 0), .a .nils], [.a (.int .i64 at_), .a (.int .i64 at_), .own 0]]) (fun k => [⟨52, 2, newRows l at_ k, false⟩]) (by omega) (by simp) (by first | (simp; done) | simp [ez]) (by first | (simp; done) | simp [ez]) (by first | (simp; done) | simp [ez]) (fun k => by first | (simp; done) | simp [ez]) (fun k => by first | (simp; done) | simp [ez]) (fun k => by first | (simp; done) | simp [ez]) ?_
    intro k hk st_ hst
    simp only [go_sem] at hst
    subst hst
    by_cases hlt : k < l.length
    · have h1 : (k : Int) < (l.length : Int) := by omega
      have e := getD_map Pr.row l k hlt
      have er : l[k].row = [.str l[k].key, .int .i64 l[k].v.kind, .int .i64 l[k].v.n, .str l[k].v.s] := rfl
      have ew := wrap1 k l.length hlt (by omega)
      have es := newRows_step l at_ k hlt
      have hln := newRows_len l at_ k
      have hg : ((newRows l at_ k).length + 1) * 40 ≤ 140737488351232 := by omega
      simp only [h1, e, er, go_sem]
      refine t_gate_intro (ins_gate _ hg) ?_
      simp only [go_sem]
      rw [← es]
      simp only [ew, go_sem]
      refine t_roundO (k + 1) (by omega) (by omega) (by simp) (by simp) (by simp) (by simp) (by simp)
    · have h1 : ¬ (k : Int) < (l.length : Int) := by omega
      have ek : newRows l at_ k = (newS l at_).rows.map Row.row := by unfold newRows; rw [List.take_of_length_le (by omega)]; rfl
      simp only [h1, ek, go_sem]
      simp only [aresult, ares, go_sem]
      rfl
  · rw [show newA l at_ = .tup [.agg zeroS.row, .a (.int .i64 1)] by simp [newA, hok]]
    refine PDen.le (r := .tup [.agg [.int .i64 0, .int .i64 0, .nils], .a (.int .i64 1)]) ?_ (VLe.tup ⟨zeroS_le, VLe.refl _, trivial⟩)
    refine den_of_body k_mvstore_New ⟨rfl, Nat.le_of_ble_eq_true rfl, thaw_intro ?_⟩
    unfold c_mvstore_New
    simp only [go_sem]
    refine t_call_intro (stateV_den l hl hf) ?_
    simp only [go_sem]
    first | refine t_case_dec (fun h1 => ?_) (fun h1 => ?_) | refine t_case_ndec (fun h1 => ?_) (fun h1 => ?_) | refine t_case_eqI (fun h1 => ?_) (fun h1 => ?_) | refine t_case_neI (fun h1 => ?_) (fun h1 => ?_) | refine t_case_not (fun h1 => ?_) (fun h1 => ?_) | refine t_case_intro (fun h1 => ?_) (fun h1 => ?_)
    rotate_left
    · simp only [go_sem]
      simp only [aresult, ares, go_sem]
    simp only [go_sem]
    first | refine t_case_dec (fun h2 => ?_) (fun h2 => ?_) | refine t_case_ndec (fun h2 => ?_) (fun h2 => ?_) | refine t_case_eqI (fun h2 => ?_) (fun h2 => ?_) | refine t_case_neI (fun h2 => ?_) (fun h2 => ?_) | refine t_case_not (fun h2 => ?_) (fun h2 => ?_) | refine t_case_intro (fun h2 => ?_) (fun h2 => ?_)
    · simp only [go_sem]
      simp only [aresult, ares, go_sem]
    simp only [go_sem]
    first | refine t_case_dec (fun h3 => ?_) (fun h3 => ?_) | refine t_case_ndec (fun h3 => ?_) (fun h3 => ?_) | refine t_case_eqI (fun h3 => ?_) (fun h3 => ?_) | refine t_case_neI (fun h3 => ?_) (fun h3 => ?_) | refine t_case_not (fun h3 => ?_) (fun h3 => ?_) | refine t_case_intro (fun h3 => ?_) (fun h3 => ?_)
    · simp only [go_sem]
      simp only [aresult, ares, go_sem]
    exact absurd (by simp [newOk, h1]; omega) hok

/-! The number of versions. -/
def versW (rows : List Row) : Int := rows.foldl (fun n r => IntKind.i64.wrap (n + (r.vs.length : Int))) 0
theorem versW_step (rows : List Row) (k : Nat) (h : k < rows.length) : versW (rows.take (k + 1)) = IntKind.i64.wrap (versW (rows.take k) + (rows[k].vs.length : Int)) := by
  unfold versW
  rw [List.take_succ_eq_append_getElem h, List.foldl_append]; rfl
set_option maxRecDepth 100000 in
set_option maxHeartbeats 1000000 in
theorem versions_den (s : Store) (hb : s.rows.length * 40 ≤ 140737488351232) : PDen Try.prog 23 [.agg s.row] (.a (.int .i64 (versW s.rows))) := by
  refine den_of_body k_mvstore_Versions ⟨rfl, Nat.le_of_ble_eq_true rfl, thaw_intro ?_⟩
  unfold c_mvstore_Versions
  simp only [go_sem]
  refine t_loop_intro (fun k : Nat => k ≤ s.rows.length) (fun k => s.rows.length - k) 0 [3, 5, 9, 10, 11, 12, 13, 14, 15, 16, 17, 18] (fun k => [(9, .a (.int .i64 k)), (3, .a (.int .i64 (versW (s.rows.take k))))]) (by omega) (by first | (simp; done) | simp [versW]) (fun k => by simp) rfl ?_
  intro k hk fr_ hfr
  simp only [go_sem] at hfr
  subst hfr
  by_cases hlt : k < s.rows.length
  · have h1 : (k : Int) < (s.rows.length : Int) := by omega
    have e := getD_map Row.row s.rows k hlt
    have er : s.rows[k].row = [.str s.rows[k].key, .slice 4 (s.rows[k].vs.map Ver.row)] := rfl
    have ew := wrap1 k s.rows.length hlt (by omega)
    have es := versW_step s.rows k hlt
    simp only [h1, e, er, go_sem]
    rw [← es]
    simp only [ew, go_sem]
    refine t_round (k + 1) (by omega) (by omega) (by simp) rfl rfl (by simp) rfl
  · have h1 : ¬ (k : Int) < (s.rows.length : Int) := by omega
    simp only [h1, go_sem]
    simp only [aresult, ares, go_sem]
    rw [List.take_of_length_le (by omega)]
end Go.Proofs.Ytlfebjehmabejaa
