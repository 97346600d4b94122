/- The package network and the reference of layer 40: Same, copied, without, Deliver; valid messages, lists that are equal. -/
import Derived.Test.YtbfhlneijbdoiaaNwB
namespace Go.Proofs.Ytbfhlneijbdoiaa
open Go Ab
attribute [local irreducible] awp aops aop asoft aeff aloop acall
attribute [local go_sem] Msg.row itemsA

def allEq {α : Type} (f : α → α → Bool) : List α → List α → Bool
  | [], [] => true
  | x :: xs, y :: ys => f x y && allEq f xs ys
  | _, _ => false
theorem allEq_len {α : Type} {f : α → α → Bool} : ∀ {a b : List α}, a.length ≠ b.length → allEq f a b = false
  | [], [], h => absurd rfl h
  | [], _ :: _, _ => rfl
  | _ :: _, [], _ => rfl
  | x :: xs, y :: ys, h => by simp only [allEq]; rw [allEq_len (a := xs) (b := ys) (by simpa using h)]; simp
theorem allEq_step {α : Type} {f : α → α → Bool} {a b : List α} (k : Nat) (ha : k < a.length) (hb : k < b.length) : allEq f (a.drop k) (b.drop k) = (f a[k] b[k] && allEq f (a.drop (k + 1)) (b.drop (k + 1))) := by
  rw [List.drop_eq_getElem_cons ha, List.drop_eq_getElem_cons hb]; rfl
theorem allEq_refl {α : Type} {f : α → α → Bool} (hf : ∀ x, f x x = true) : ∀ (a : List α), allEq f a a = true
  | [] => rfl
  | x :: xs => by simp [allEq, hf, allEq_refl hf xs]

def itmEq (x y : Itm) : Bool := x.term == y.term && (x.data.toList == y.data.toList && true)
theorem itmEq_refl (x : Itm) : itmEq x x = true := by simp [itmEq]
def sameM (a b : Msg) : Bool := (a.kind == b.kind) && (a.frm == b.frm) && (a.to == b.to) && (a.term == b.term) && (a.index == b.index) && (a.logTerm == b.logTerm) && (a.commit == b.commit) && (a.ok == b.ok) && allEq itmEq a.items b.items
theorem sameM_refl (a : Msg) : sameM a a = true := by simp [sameM, allEq_refl itmEq_refl]

set_option maxRecDepth 100000 in
set_option maxHeartbeats 400000 in
theorem equal_den (a b : List Itm) (ha : a.length ≤ 9223372036854775807) (hb : b.length ≤ 9223372036854775807) : PDen Try.prog 34 [.a (itemsA a), .a (itemsA b)] (.a (.bool (allEq itmEq a b))) := by
  refine den_of_body k_slices_Equal_api_Item_api_Item ⟨rfl, Nat.le_of_ble_eq_true rfl, thaw_intro ?_⟩
  unfold c_slices_Equal_api_Item_api_Item
  simp only [go_sem]
  first | refine t_case_dec (fun h => ?_) (fun h => ?_) | refine t_case_ndec (fun h => ?_) (fun h => ?_) | refine t_case_eqI (fun h => ?_) (fun h => ?_) | refine t_case_neI (fun h => ?_) (fun h => ?_) | refine t_case_not (fun h => ?_) (fun h => ?_) | refine t_case_intro (fun h => ?_) (fun h => ?_)
  rotate_left
  · simp only [go_sem]
    simp only [aresult, ares, go_sem]
    rw [allEq_len (by omega)]
  have hab : a.length = b.length := by omega
  simp only [go_sem]
  refine t_loop_intro (fun k : Nat => k ≤ a.length ∧ (allEq itmEq a b = allEq itmEq (a.drop k) (b.drop k))) (fun k => a.length - k) 0 [4, 5, 13, 14, 15, 16, 17, 18, 19, 20, 21, 22, 23, 24, 25] (fun k => [(13, .a (.int .i64 k))]) ⟨by omega, by rfl⟩ (by simp) (fun k => by simp) rfl ?_
  intro k hk0 fr_ hfr
  have hk : k ≤ a.length := hk0.1
  have hall := hk0.2
  clear hk0
  simp only [go_sem] at hfr
  subst hfr
  by_cases hlt : k < a.length
  · have hltb : k < b.length := by omega
    have h1 : (k : Int) < (a.length : Int) := by omega
    have h2 : (k : Int) < (b.length : Int) := by omega
    have e1 := getD_map Itm.row a k hlt
    have e2 := getD_map Itm.row b k hltb
    have e3 : a[k].row = [.int .i64 a[k].term, .str a[k].data] := rfl
    have e4 : b[k].row = [.int .i64 b[k].term, .str b[k].data] := rfl
    have ew := wrap1 k a.length hlt ha
    have es := allEq_step (f := itmEq) k hlt hltb
    simp only [h1, h2, e1, e2, e3, e4, go_sem]
    first | refine t_case_dec (fun h3 => ?_) (fun h3 => ?_) | refine t_case_ndec (fun h3 => ?_) (fun h3 => ?_) | refine t_case_eqI (fun h3 => ?_) (fun h3 => ?_) | refine t_case_neI (fun h3 => ?_) (fun h3 => ?_) | refine t_case_not (fun h3 => ?_) (fun h3 => ?_) | refine t_case_intro (fun h3 => ?_) (fun h3 => ?_)
    · simp only [ew, go_sem]
      refine t_round (k + 1) ⟨by omega, by rw [hall, es]; simp only [itmEq]; simp_all⟩ (by omega) (by simp) rfl rfl (by simp) rfl
    · simp only [go_sem]
      simp only [aresult, ares, go_sem]
      rw [hall, es]; simp only [itmEq]; simp_all
  · have h1 : ¬ (k : Int) < (a.length : Int) := by omega
    simp only [h1, go_sem]
    simp only [aresult, ares, go_sem]
    rw [List.drop_eq_nil_of_le (by omega), List.drop_eq_nil_of_le (by omega)] at hall
    rw [hall]; rfl

set_option maxRecDepth 100000 in
set_option maxHeartbeats 1000000 in
theorem same_den (a b : Msg) (ha : a.items.length ≤ 9223372036854775807) (hb : b.items.length ≤ 9223372036854775807) : PDen Try.prog 12 [.agg a.row, .agg b.row] (.a (.bool (sameM a b))) := by
  refine den_of_body k_network_Same ⟨rfl, Nat.le_of_ble_eq_true rfl, thaw_intro ?_⟩
  unfold c_network_Same
  simp only [go_sem]
  repeat' (first
    | (refine t_call_intro (equal_den a.items b.items ha hb) ?_; simp only [go_sem])
    | ((first | refine t_case_dec (fun hc => ?_) (fun hc => ?_) | refine t_case_ndec (fun hc => ?_) (fun hc => ?_) | refine t_case_eqI (fun hc => ?_) (fun hc => ?_) | refine t_case_neI (fun hc => ?_) (fun hc => ?_) | refine t_case_not (fun hc => ?_) (fun hc => ?_) | refine t_case_intro (fun hc => ?_) (fun hc => ?_)) <;> simp only [go_sem]))
  all_goals simp only [aresult, ares, go_sem]
  all_goals simp_all [sameM]

set_option maxRecDepth 100000 in
theorem in_den (n lo : Int) : PDen Try.prog 31 [.a (.int .i64 n), .a (.int .i64 lo)] (.a (.bool (inB n lo 1099511627776))) := by
  refine den_of_body k_ref40_in ⟨rfl, Nat.le_of_ble_eq_true rfl, thaw_intro ?_⟩
  unfold c_ref40_in
  simp only [go_sem]
  repeat' (first
    | ((first | refine t_case_dec (fun hc => ?_) (fun hc => ?_) | refine t_case_ndec (fun hc => ?_) (fun hc => ?_) | refine t_case_eqI (fun hc => ?_) (fun hc => ?_) | refine t_case_neI (fun hc => ?_) (fun hc => ?_) | refine t_case_not (fun hc => ?_) (fun hc => ?_) | refine t_case_intro (fun hc => ?_) (fun hc => ?_)) <;> simp only [go_sem]))
  all_goals simp only [aresult, ares, go_sem]
  all_goals (simp_all [inB]; try omega)

set_option maxRecDepth 100000 in
set_option maxHeartbeats 400000 in
theorem rvalidItems_den (l : List Itm) (hl : l.length ≤ 9223372036854775807) : PDen Try.prog 32 [.a (itemsA l)] (.a (.bool (validItems l))) := by
  refine den_of_body k_ref40_validItems ⟨rfl, Nat.le_of_ble_eq_true rfl, thaw_intro ?_⟩
  unfold c_ref40_validItems
  simp only [go_sem]
  refine t_loop_intro (fun k : Nat => k ≤ l.length ∧ (l.all validItem = (l.drop k).all validItem)) (fun k => l.length - k) 0 [2, 3, 4, 5, 6, 7, 8, 9, 10, 11, 12, 13, 14, 15, 16, 17, 18, 19, 20, 21, 22, 23, 24, 25] (fun k => [(3, .a (.int .i64 k))]) ⟨by omega, by rfl⟩ (by simp) (fun k => by simp) rfl ?_
  intro k hk0 fr_ hfr
  have hk : k ≤ l.length := hk0.1
  have hall := hk0.2
  clear hk0
  simp only [go_sem] at hfr
  subst hfr
  by_cases hlt : k < l.length
  · have h1 : (k : Int) < (l.length : Int) := by omega
    have e := rowsI l k hlt
    have ew := wrap1 k l.length hlt hl
    have es : (l.drop k).all validItem = (validItem l[k] && (l.drop (k + 1)).all validItem) := by
      rw [List.drop_eq_getElem_cons hlt, List.all_cons]
    simp only [h1, e, go_sem]
    refine t_call_intro (in_den _ _) ?_
    simp only [go_sem]
    first | refine t_case_dec (fun h2 => ?_) (fun h2 => ?_) | refine t_case_ndec (fun h2 => ?_) (fun h2 => ?_) | refine t_case_eqI (fun h2 => ?_) (fun h2 => ?_) | refine t_case_neI (fun h2 => ?_) (fun h2 => ?_) | refine t_case_not (fun h2 => ?_) (fun h2 => ?_) | refine t_case_intro (fun h2 => ?_) (fun h2 => ?_)
    · simp only [h1, e, go_sem]
      first | refine t_case_dec (fun h3 => ?_) (fun h3 => ?_) | refine t_case_ndec (fun h3 => ?_) (fun h3 => ?_) | refine t_case_eqI (fun h3 => ?_) (fun h3 => ?_) | refine t_case_neI (fun h3 => ?_) (fun h3 => ?_) | refine t_case_not (fun h3 => ?_) (fun h3 => ?_) | refine t_case_intro (fun h3 => ?_) (fun h3 => ?_)
      · simp only [go_sem]
        simp only [aresult, ares, go_sem]
        have : validItem l[k] = false := by simp [validItem]; omega
        simp [validItems, hall, es, this]
      · simp only [ew, go_sem]
        refine t_round (k + 1) ⟨by omega, by rw [hall, es]; simp [validItem, h2]; omega⟩ (by omega) (by simp) rfl rfl (by simp) rfl
    · simp only [go_sem]
      simp only [aresult, ares, go_sem]
      have : validItem l[k] = false := by simp [validItem, h2]
      simp [validItems, hall, es, this]
  · have h1 : ¬ (k : Int) < (l.length : Int) := by omega
    simp only [h1, go_sem]
    simp only [aresult, ares, go_sem]
    rw [List.drop_eq_nil_of_le (by omega)] at hall
    simp [validItems, hall]; omega

def unusedM (m : Msg) : Bool :=
  if m.kind = 1 then (m.commit == 0) && !m.ok && ((m.items.length : Int) == 0)
  else if m.kind = 2 then (m.index == 0) && (m.logTerm == 0) && (m.commit == 0) && ((m.items.length : Int) == 0)
  else if m.kind = 3 then !m.ok
  else (m.logTerm == 0) && (m.commit == 0) && ((m.items.length : Int) == 0)

set_option maxRecDepth 100000 in
theorem unused_den (m : Msg) : PDen Try.prog 33 [.agg m.row] (.a (.bool (unusedM m))) := by
  refine den_of_body k_ref40_unused ⟨rfl, Nat.le_of_ble_eq_true rfl, thaw_intro ?_⟩
  unfold c_ref40_unused
  simp only [go_sem]
  repeat' (first
    | ((first | refine t_case_dec (fun hc => ?_) (fun hc => ?_) | refine t_case_ndec (fun hc => ?_) (fun hc => ?_) | refine t_case_eqI (fun hc => ?_) (fun hc => ?_) | refine t_case_neI (fun hc => ?_) (fun hc => ?_) | refine t_case_not (fun hc => ?_) (fun hc => ?_) | refine t_case_intro (fun hc => ?_) (fun hc => ?_)) <;> simp only [go_sem]))
  all_goals simp only [aresult, ares, go_sem]
  all_goals simp_all [unusedM]

theorem unused_plain (m : Msg) (h1 : 1 ≤ m.kind) (h2 : m.kind ≤ 4) : unusedM m = plainM m := by
  unfold unusedM plainM
  split
  · rfl
  · split
    · rfl
    · split
      · rfl
      · rw [if_pos (by omega)]

set_option maxRecDepth 100000 in
set_option maxHeartbeats 2000000 in
theorem rvalid_den (m : Msg) (n : Int) (hl : m.items.length ≤ 9223372036854775807) : PDen Try.prog 11 [.agg m.row, .a (.int .i64 n)] (.a (.bool (validMsg m n))) := by
  have hpl : ¬ (1 ≤ m.kind ∧ m.kind ≤ 4) → plainM m = false := fun h => by
    unfold plainM
    split; omega
    split; omega
    split; omega
    split; omega
    rfl
  have hun := unused_plain m
  refine den_of_body k_ref40_Valid ⟨rfl, Nat.le_of_ble_eq_true rfl, thaw_intro ?_⟩
  unfold c_ref40_Valid
  simp only [go_sem]
  repeat' (first
    | (refine t_call_intro (in_den _ _) ?_; simp only [go_sem])
    | (refine t_call_intro (rvalidItems_den m.items hl) ?_; simp only [go_sem])
    | (refine t_call_intro (unused_den m) ?_; simp only [go_sem])
    | ((first | refine t_case_dec (fun hc => ?_) (fun hc => ?_) | refine t_case_ndec (fun hc => ?_) (fun hc => ?_) | refine t_case_eqI (fun hc => ?_) (fun hc => ?_) | refine t_case_neI (fun hc => ?_) (fun hc => ?_) | refine t_case_not (fun hc => ?_) (fun hc => ?_) | refine t_case_intro (fun hc => ?_) (fun hc => ?_)) <;> simp only [go_sem]))
  all_goals simp only [aresult, ares, go_sem]
  all_goals (simp_all [validMsg, inB]; try omega)
  all_goals exact fun _ _ _ _ _ _ _ _ _ _ _ _ _ _ => hpl (fun h => by omega)
end Go.Proofs.Ytbfhlneijbdoiaa
