/- The package network and the reference of layer 40: lists of messages, copies, delivery; the example of the chapter. -/
import Derived.Test.YtnhcahoeklpbfaaNwC
set_option linter.unusedSimpArgs false
set_option linter.unusedVariables false
namespace Go.Proofs.Ytnhcahoeklpbfaa
open Go Ab
attribute [local irreducible] awp aops aop asoft aeff aloop acall
attribute [local go_sem] itemsA

theorem copied_all (rows src : List (List Atom)) (h : src.length = rows.length) : copied rows src 0 = src := by
  simp [copied, h]
  rw [List.take_of_length_le (by omega)]
theorem set_same (l : List (List Atom)) (k : Nat) (h : k < l.length) : l.set k l[k] = l := by
  apply List.ext_getElem?
  intro j
  rw [List.getElem?_set]
  split
  · rename_i e; subst e; simp [h]
  · rfl
def Msgs.fit (l : List Msg) : Prop := l.length * 88 ≤ 140737488351232 ∧ ∀ m ∈ l, m.items.length * 24 ≤ 140737488351232

set_option maxRecDepth 100000 in
set_option maxHeartbeats 1000000 in
theorem copied_den (l : List Msg) (n : Nat) (hl : Msgs.fit l) (hn : n * 88 ≤ 140737488351232) : PDen Try.prog 18 [.a (.slice 9 (l.map Msg.row)), .a (.int .i64 n)] (.a (.slice 9 (l.map Msg.row))) := by
  obtain ⟨h1, h2⟩ := hl
  have ew : IntKind.i64.wrap ((l.length : Int) + (n : Int)) = ((l.length + n : Nat) : Int) := by rw [IntKind.wrap_i64]; omega
  refine den_of_body k_network_copied ⟨rfl, Nat.le_of_ble_eq_true rfl, thaw_intro ?_⟩
  unfold c_network_copied
  simp only [ew, go_sem]
  refine t_gate_intro (by simp; omega) ?_
  simp only [go_sem]
  have ec : copied (List.replicate l.length [.int .i64 0, .int .i64 0, .int .i64 0, .int .i64 0, .int .i64 0, .int .i64 0, .int .i64 0, .bool false, .nils]) (l.map Msg.row) 0 = l.map Msg.row := copied_all _ _ (by simp)
  simp only [ec, go_sem]
  refine t_loopO_intro [] (fun k : Nat => k ≤ l.length) (fun k => l.length - k) 0 [6, 19, 20, 21, 22, 23, 24, 25, 26, 27, 28, 29, 30] (fun k => [(19, .a (.int .i64 k))]) (fun k => []) (fun k => [⟨25, 9, l.map Msg.row, true⟩]) (by omega) (by simp) (by simp) (by simp) (by simp) (fun k => by simp) (fun k => by simp) (fun k => by simp) ?_
  intro k hk st_ hst
  simp only [go_sem] at hst
  subst hst
  by_cases hlt : k < l.length
  · have h3 : (k : Int) < (l.length : Int) := by omega
    have e := getD_map Msg.row l k hlt
    have er : l[k].row.length = 9 := rfl
    have et : l[k].row.take 9 = l[k].row := rfl
    have ed : l[k].row.drop 9 = [] := rfl
    have eset : (l.map Msg.row).set k l[k].row = l.map Msg.row := by
      have := set_same (l.map Msg.row) k (by simpa using hlt)
      simpa using this
    have ekn := wrap1 k l.length hlt (by omega)
    simp only [h3, e, et, hlt, go_sem]
    refine t_call_intro (clone_den l[k] (h2 _ (List.getElem_mem hlt))) ?_
    simp only [h3, e, et, er, ed, eset, hlt, go_sem]
    simp only [ekn, go_sem]
    refine t_roundO (k + 1) (by omega) (by omega) (by simp) (by simp) (by simp) (by simp) (by simp)
  · have h3 : ¬ (k : Int) < (l.length : Int) := by omega
    simp only [h3, go_sem]
    simp only [aresult, ares, go_sem]

theorem copied_out (R L : List (List Atom)) (i : Nat) (hi : i < L.length) (hR : R.length = L.length - 1) : copied (copied R (L.take i) 0) (L.drop (i + 1)) i = L.eraseIdx i := by
  have h1 : copied R (L.take i) 0 = L.take i ++ R.drop i := by
    simp only [copied, List.take_zero, List.nil_append, Nat.sub_zero, Nat.zero_add, List.length_take]
    rw [List.take_take, Nat.min_eq_right (by omega), Nat.min_eq_left (by omega), Nat.min_eq_left (by omega)]
  have hl : (L.take i ++ R.drop i).length = L.length - 1 := by simp; omega
  rw [h1]
  unfold copied
  have e1 : (L.take i ++ R.drop i).take i = L.take i := List.take_left' (by simp; omega)
  have e2 : (L.drop (i + 1)).take (L.length - 1 - i) = L.drop (i + 1) := List.take_of_length_le (by simp; omega)
  have e3 : ∀ k, L.length - 1 ≤ k → (L.take i ++ R.drop i).drop k = [] := fun k hk => List.drop_of_length_le (by omega)
  rw [hl, e1, e2, e3 _ (by simp only [List.length_drop]; omega), List.append_nil, List.eraseIdx_eq_take_drop_succ]
theorem erase_map {α β : Type} (f : α → β) (l : List α) (i : Nat) : (l.map f).eraseIdx i = (l.eraseIdx i).map f := by
  rw [List.eraseIdx_eq_take_drop_succ, List.eraseIdx_eq_take_drop_succ]; simp
theorem Msgs.fit.erase {l : List Msg} (h : Msgs.fit l) (i : Nat) : Msgs.fit (l.eraseIdx i) :=
  ⟨by have := List.length_eraseIdx_le l i; have := h.1; omega, fun m hm => h.2 m (List.mem_of_mem_eraseIdx hm)⟩
theorem Msgs.fit.at_ {l : List Msg} (h : Msgs.fit l) (i : Nat) (hi : i < l.length) : l[i].items.length * 24 ≤ 140737488351232 := h.2 _ (List.getElem_mem hi)

set_option maxRecDepth 100000 in
set_option maxHeartbeats 1000000 in
theorem without_den (l : List Msg) (i : Nat) (hi : i < l.length) (hl : Msgs.fit l) : PDen Try.prog 16 [.a (.slice 9 (l.map Msg.row)), .a (.int .i64 i)] (.a (.slice 9 ((l.eraseIdx i).map Msg.row))) := by
  have h1 := hl.1
  have ew : IntKind.i64.wrap ((l.length : Int) - 1) = ((l.length - 1 : Nat) : Int) := by rw [IntKind.wrap_i64]; omega
  have ei : IntKind.i64.wrap ((i : Int) + 1) = ((i + 1 : Nat) : Int) := by rw [IntKind.wrap_i64]; omega
  have eo : ∀ R : List (List Atom), R.length = l.length - 1 → copied (copied R ((l.map Msg.row).take i) 0) ((l.map Msg.row).drop (i + 1)) i = (l.eraseIdx i).map Msg.row := fun R hR => by
    rw [copied_out _ _ i (by simpa using hi) (by simpa using hR), erase_map]
  have ecl : ∀ R S : List (List Atom), (copied R S 0).length = R.length := fun R S => copied_len (Nat.zero_le _)
  have et : (l.map Msg.row).take l.length = l.map Msg.row := List.take_of_length_le (by simp)
  refine den_of_body k_network_without ⟨rfl, Nat.le_of_ble_eq_true rfl, thaw_intro ?_⟩
  unfold c_network_without
  simp only [ew, go_sem]
  refine t_gate_intro (by simp; omega) ?_
  simp only [go_sem]
  refine t_gate_intro (by simp; omega) ?_
  simp only [ei, go_sem]
  refine t_gate_intro (by simp [ecl]; omega) ?_
  simp only [ei, go_sem]
  refine t_gate_intro (by simp; omega) ?_
  simp only [et, go_sem]
  refine t_gate_intro (by simp [ecl]; omega) ?_
  simp only [go_sem]
  rw [eo _ (by simp)]
  refine t_call_intro (copied_den (l.eraseIdx i) 0 (hl.erase i) (by omega)) ?_
  simp only [go_sem]
  simp only [aresult, ares, go_sem]

def zeroM : Msg := ⟨0, 0, 0, 0, 0, 0, 0, false, []⟩
theorem zeroM_le : VLe (.agg [.int .i64 0, .int .i64 0, .int .i64 0, .int .i64 0, .int .i64 0, .int .i64 0, .int .i64 0, .bool false, .nils]) (.agg zeroM.row) :=
  VLe.agg ⟨RLe.refl _, RLe.refl _, RLe.refl _, RLe.refl _, RLe.refl _, RLe.refl _, RLe.refl _, RLe.refl _, RLe.nils 2, trivial⟩

set_option maxRecDepth 100000 in
set_option maxHeartbeats 1000000 in
theorem deliver_den (l : List Msg) (i : Nat) (hi : i < l.length) (hl : Msgs.fit l) : PDen Try.prog 4 [.a (.slice 9 (l.map Msg.row)), .a (.int .i64 i)]
    (.tup [.agg l[i].row, .a (.slice 9 ((l.eraseIdx i).map Msg.row)), .a (.int .i64 0)]) := by
  have h1 : ¬ (i : Int) < 0 := by omega
  have h2 : ¬ (l.length : Int) ≤ (i : Int) := by omega
  have h3 : (i : Int) < (l.length : Int) := by omega
  have e := getD_map Msg.row l i hi
  have er : l[i].row.length = 9 := rfl
  have et : l[i].row.take 9 = l[i].row := rfl
  refine den_of_body k_network_Deliver ⟨rfl, Nat.le_of_ble_eq_true rfl, thaw_intro ?_⟩
  unfold c_network_Deliver
  simp only [h1, h2, h3, e, er, et, go_sem]
  refine t_call_intro (clone_den l[i] (hl.at_ i hi)) ?_
  simp only [h1, h2, h3, e, er, et, go_sem]
  refine t_call_intro (without_den l i hi hl) ?_
  simp only [h1, h2, h3, e, er, et, go_sem]
  have et2 : (l[i].row.map AV.a).take 9 = l[i].row.map AV.a := rfl
  simp only [aresult, ares, et2, er, go_sem]
set_option maxRecDepth 100000 in
set_option maxHeartbeats 1000000 in
theorem deliver_out (l : List Msg) (i : Int) (hi : i < 0 ∨ (l.length : Int) ≤ i) : PDen Try.prog 4 [.a (.slice 9 (l.map Msg.row)), .a (.int .i64 i)]
    (.tup [.agg zeroM.row, .a (.slice 9 []), .a (.int .i64 9)]) := by
  refine PDen.le (r := .tup [.agg [.int .i64 0, .int .i64 0, .int .i64 0, .int .i64 0, .int .i64 0, .int .i64 0, .int .i64 0, .bool false, .nils], .a .nils, .a (.int .i64 9)]) ?_ (VLe.tup ⟨zeroM_le, VLe.a (RLe.nils 9), VLe.refl _, trivial⟩)
  refine den_of_body k_network_Deliver ⟨rfl, Nat.le_of_ble_eq_true rfl, thaw_intro ?_⟩
  unfold c_network_Deliver
  simp only [go_sem]
  first | refine t_case_dec (fun h1 => ?_) (fun h1 => ?_) | refine t_case_ndec (fun h1 => ?_) (fun h1 => ?_) | refine t_case_eqI (fun h1 => ?_) (fun h1 => ?_) | refine t_case_neI (fun h1 => ?_) (fun h1 => ?_) | refine t_case_not (fun h1 => ?_) (fun h1 => ?_) | refine t_case_intro (fun h1 => ?_) (fun h1 => ?_)
  · simp only [go_sem]
    simp only [aresult, ares, go_sem]
  · have h2 : (l.length : Int) ≤ i := by omega
    simp only [h2, go_sem]
    simp only [aresult, ares, go_sem]

set_option maxRecDepth 100000 in
set_option maxHeartbeats 1000000 in
theorem rsame_den (a b : Msg) (ha : a.items.length ≤ 9223372036854775807) (hb : b.items.length ≤ 9223372036854775807) : PDen Try.prog 6 [.agg a.row, .agg b.row] (.a (.bool (sameM a b))) := by
  have hlf : ((a.items.length : Int) != (b.items.length : Int)) = true → allEq itmEq a.items b.items = false := fun h => allEq_len (by have h' : ¬ ((a.items.length : Int) = (b.items.length : Int)) := (by simpa using h); omega)
  refine den_of_body k_ref40_Same ⟨rfl, Nat.le_of_ble_eq_true rfl, thaw_intro ?_⟩
  unfold c_ref40_Same
  unfold Msg.row
  simp only [go_sem]
  repeat' ((first | refine t_case_dec (fun hc => ?_) (fun hc => ?_) | refine t_case_ndec (fun hc => ?_) (fun hc => ?_) | refine t_case_eqI (fun hc => ?_) (fun hc => ?_) | refine t_case_neI (fun hc => ?_) (fun hc => ?_) | refine t_case_not (fun hc => ?_) (fun hc => ?_) | refine t_case_intro (fun hc => ?_) (fun hc => ?_)) <;> try simp only [go_sem])
  all_goals first
    | (simp only [aresult, ares, go_sem]; simp_all [sameM]; done)
    | skip
  have hab : a.items.length = b.items.length := by simp_all; omega
  refine t_loop_intro (fun k : Nat => k ≤ a.items.length ∧ (allEq itmEq a.items b.items = allEq itmEq (a.items.drop k) (b.items.drop k))) (fun k => a.items.length - k) 0 [4, 5, 69, 70, 71, 72, 73, 74, 75, 76, 77, 78, 79, 80, 81, 82, 83, 84, 85, 86] (fun k => [(5, .a (.int .i64 k))]) ⟨by omega, by rfl⟩ (by simp) (fun k => by simp) rfl ?_
  intro k hk0 fr_ hfr
  have hk : k ≤ a.items.length := hk0.1
  have hall := hk0.2
  clear hk0
  simp only [go_sem] at hfr
  subst hfr
  by_cases hlt : k < a.items.length
  · have hltb : k < b.items.length := by omega
    have h1 : (k : Int) < (a.items.length : Int) := by omega
    have h2 : (k : Int) < (b.items.length : Int) := by omega
    have e1 := getD_map Itm.row a.items k hlt
    have e2 := getD_map Itm.row b.items k hltb
    have e3 : a.items[k].row = [.int .i64 a.items[k].term, .str a.items[k].data] := rfl
    have e4 : b.items[k].row = [.int .i64 b.items[k].term, .str b.items[k].data] := rfl
    have ew := wrap1 k a.items.length hlt ha
    have es := allEq_step (f := itmEq) k hlt hltb
    simp only [h1, h2, e1, e2, e3, e4, go_sem]
    first | refine t_case_dec (fun h3 => ?_) (fun h3 => ?_) | refine t_case_ndec (fun h3 => ?_) (fun h3 => ?_) | refine t_case_eqI (fun h3 => ?_) (fun h3 => ?_) | refine t_case_neI (fun h3 => ?_) (fun h3 => ?_) | refine t_case_not (fun h3 => ?_) (fun h3 => ?_) | refine t_case_intro (fun h3 => ?_) (fun h3 => ?_)
    · simp only [ew, go_sem]
      refine t_round (k + 1) ⟨by omega, by rw [hall, es]; simp only [itmEq]; simp_all⟩ (by omega) (by simp) rfl rfl (by simp) rfl
    · simp only [go_sem]
      simp only [aresult, ares, go_sem]
      have : itmEq a.items[k] b.items[k] = false := by simp only [itmEq]; simp_all
      simp [sameM, hall, es, this]
  · have h1 : ¬ (k : Int) < (a.items.length : Int) := by omega
    simp only [h1, go_sem]
    simp only [aresult, ares, go_sem]
    rw [List.drop_eq_nil_of_le (by omega), List.drop_eq_nil_of_le (by omega)] at hall
    have : allEq itmEq a.items b.items = true := by rw [hall]; rfl
    simp_all [sameM]
end Go.Proofs.Ytnhcahoeklpbfaa
