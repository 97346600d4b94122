/- The package network: plain, Valid, Same, clone, copied, without, Deliver. -/
import Derived.Test.YtnhcahoeklpbfaaNwA
import Derived.Test.YtnhcahoeklpbfaaAbP
set_option linter.unusedSimpArgs false
set_option linter.unusedVariables false
namespace Go.Proofs.Ytnhcahoeklpbfaa
open Go Ab
attribute [local irreducible] awp aops aop asoft aeff aloop acall
attribute [local go_sem] Msg.row itemsA

def Msg.fit (m : Msg) : Prop := m.items.length * 24 ≤ 140737488351232 ∧ ∀ x ∈ m.items, x.data.size ≤ 9223372036854775807
theorem getD_map {α β : Type} (f : α → List β) (l : List α) (k : Nat) (h : k < l.length) : (l.map f).getD k [] = f l[k] := by simp [h]
theorem wrap1 (k n : Nat) (h : k < n) (hn : n ≤ 9223372036854775807) : IntKind.i64.wrap ((k : Int) + 1) = ((k + 1 : Nat) : Int) := by rw [IntKind.wrap_i64]; omega
theorem zr_row (m : Msg) : m.row = [.int .i64 m.kind, .int .i64 m.frm, .int .i64 m.to, .int .i64 m.term, .int .i64 m.index, .int .i64 m.logTerm, .int .i64 m.commit, .bool m.ok, .slice 2 (m.items.map Itm.row)] := rfl

set_option maxRecDepth 100000 in
theorem plain_den (m : Msg) (hl : m.items.length ≤ 9223372036854775807) : PDen Try.prog 24 [.agg m.row] (.a (.bool (plainM m))) := by
  refine den_of_body k_network_plain ⟨rfl, Nat.le_of_ble_eq_true rfl, thaw_intro ?_⟩
  unfold c_network_plain
  simp only [go_sem]
  repeat' ((first | refine t_case_dec (fun hc => ?_) (fun hc => ?_) | refine t_case_ndec (fun hc => ?_) (fun hc => ?_) | refine t_case_eqI (fun hc => ?_) (fun hc => ?_) | refine t_case_neI (fun hc => ?_) (fun hc => ?_) | refine t_case_not (fun hc => ?_) (fun hc => ?_) | refine t_case_intro (fun hc => ?_) (fun hc => ?_)) <;> try simp only [go_sem])
  all_goals simp only [aresult, ares, go_sem]
  all_goals simp_all [plainM]

set_option maxRecDepth 100000 in
set_option maxHeartbeats 400000 in
theorem clItems_den (l : List Itm) (hl : l.length * 24 ≤ 140737488351232) : PDen Try.prog 21 [.a (itemsA l)] (.a (itemsA l)) := by
  unfold itemsA
  refine PDen.nn ?_ fun h0 => ?_
  · refine den_of_body k_slices_Clone_api_Item_api_Item ⟨rfl, Nat.le_of_ble_eq_true rfl, thaw_intro ?_⟩
    unfold c_slices_Clone_api_Item_api_Item
    simp only [go_sem]
    refine t_gate_intro (by simp; omega) ?_
    simp only [go_sem]
    simp only [aresult, ares, go_sem]
  · have h1 : l = [] := by simpa using h0
    subst h1
    refine PDen.resA (x := .nils) ?_ (RLe.nils 2)
    refine den_of_body k_slices_Clone_api_Item_api_Item ⟨rfl, Nat.le_of_ble_eq_true rfl, thaw_intro ?_⟩
    unfold c_slices_Clone_api_Item_api_Item
    simp only [go_sem]
    simp only [aresult, ares, go_sem]

set_option maxRecDepth 100000 in
theorem clone_den (m : Msg) (hl : m.items.length * 24 ≤ 140737488351232) : PDen Try.prog 15 [.agg m.row] (.agg m.row) := by
  refine den_of_body k_network_clone ⟨rfl, Nat.le_of_ble_eq_true rfl, thaw_intro ?_⟩
  unfold c_network_clone
  simp only [go_sem]
  refine t_call_intro (clItems_den m.items hl) ?_
  simp only [go_sem]
  simp only [aresult, ares, go_sem]

set_option maxRecDepth 100000 in
set_option maxHeartbeats 1000000 in
theorem valid_den (m : Msg) (n : Int) (hl : m.items.length ≤ 9223372036854775807) : PDen Try.prog 20 [.agg m.row, .a (.int .i64 n)] (.a (.bool (validMsg m n))) := by
  refine den_of_body k_network_Valid ⟨rfl, Nat.le_of_ble_eq_true rfl, thaw_intro ?_⟩
  unfold c_network_Valid
  simp only [go_sem]
  repeat' (first
    | (refine t_call_intro (within_den _ _ _) ?_; simp only [go_sem])
    | (refine t_call_intro (validItems_den m.items hl) ?_; simp only [go_sem])
    | (refine t_call_intro (plain_den m hl) ?_; simp only [go_sem])
    | ((first | refine t_case_dec (fun hc => ?_) (fun hc => ?_) | refine t_case_ndec (fun hc => ?_) (fun hc => ?_) | refine t_case_eqI (fun hc => ?_) (fun hc => ?_) | refine t_case_neI (fun hc => ?_) (fun hc => ?_) | refine t_case_not (fun hc => ?_) (fun hc => ?_) | refine t_case_intro (fun hc => ?_) (fun hc => ?_)) <;> simp only [go_sem]))
  all_goals simp only [aresult, ares, go_sem]
  all_goals simp_all [validMsg]
end Go.Proofs.Ytnhcahoeklpbfaa
