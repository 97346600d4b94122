/- The package network, and the reference of layer 40: which messages are valid. -/
import Derived.Test.YtnhcahoeklpbfaaCode
import Derived.Test.YtnhcahoeklpbfaaAbO
import Derived.Test.YtnhcahoeklpbfaaAbS
set_option linter.unusedSimpArgs false
set_option linter.unusedVariables false
namespace Go.Proofs.Ytnhcahoeklpbfaa
open Go Ab
attribute [local irreducible] awp aops aop asoft aeff aloop acall

structure Itm where
  term : Int
  data : ByteArray
deriving DecidableEq
structure Msg where
  kind : Int
  frm : Int
  to : Int
  term : Int
  index : Int
  logTerm : Int
  commit : Int
  ok : Bool
  items : List Itm
deriving DecidableEq
def Itm.row (x : Itm) : List Atom := [.int .i64 x.term, .str x.data]
def itemsA (l : List Itm) : Atom := .slice 2 (l.map Itm.row)
def Msg.row (m : Msg) : List Atom := [.int .i64 m.kind, .int .i64 m.frm, .int .i64 m.to, .int .i64 m.term, .int .i64 m.index, .int .i64 m.logTerm, .int .i64 m.commit, .bool m.ok, itemsA m.items]

def inB (n lo hi : Int) : Bool := decide (lo ≤ n) && decide (n ≤ hi)
def validItem (x : Itm) : Bool := inB x.term 1 1099511627776 && decide (x.data.size ≤ 4096)
def validItems (l : List Itm) : Bool := decide (l.length ≤ 256) && l.all validItem
def plainM (m : Msg) : Bool :=
  if m.kind = 1 then (m.commit == 0) && !m.ok && ((m.items.length : Int) == 0)
  else if m.kind = 2 then (m.index == 0) && (m.logTerm == 0) && (m.commit == 0) && ((m.items.length : Int) == 0)
  else if m.kind = 3 then !m.ok
  else if m.kind = 4 then (m.logTerm == 0) && (m.commit == 0) && ((m.items.length : Int) == 0)
  else false
def validMsg (m : Msg) (n : Int) : Bool :=
  (inB n 1 7 && inB m.frm 1 n && inB m.to 1 n && !(m.frm == m.to)) && (inB m.term 1 1099511627776 && inB m.index 0 1099511627776 && inB m.logTerm 0 1099511627776 && inB m.commit 0 1099511627776) && validItems m.items && plainM m

theorem rowsI (l : List Itm) (k : Nat) (hk : k < l.length) : (l.map Itm.row).getD k [] = [.int .i64 l[k].term, .str l[k].data] := by simp [Itm.row, hk]
theorem len63 {α : Type} (l : List α) (k : Nat) (hk : k < l.length) (hl : l.length ≤ 9223372036854775807) : IntKind.i64.wrap ((k : Int) + 1) = ((k + 1 : Nat) : Int) := by
  rw [IntKind.wrap_i64]; omega

set_option maxRecDepth 100000 in
theorem within_den (n lo hi : Int) : PDen Try.prog 22 [.a (.int .i64 n), .a (.int .i64 lo), .a (.int .i64 hi)] (.a (.bool (inB n lo hi))) := by
  refine den_of_body k_network_within ⟨rfl, Nat.le_of_ble_eq_true rfl, thaw_intro ?_⟩
  unfold c_network_within
  simp only [go_sem]
  refine t_case_intro (fun h => ?_) (fun h => ?_)
  all_goals simp only [aresult, ares, go_sem]
  all_goals (simp at h; simp [inB, h])
  omega

set_option maxRecDepth 100000 in
set_option maxHeartbeats 400000 in
theorem validItems_den (l : List Itm) (hl : l.length ≤ 9223372036854775807) : PDen Try.prog 23 [.a (itemsA l)] (.a (.bool (validItems l))) := by
  refine den_of_body k_network_validItems ⟨rfl, Nat.le_of_ble_eq_true rfl, thaw_intro ?_⟩
  unfold c_network_validItems itemsA
  simp only [go_sem]
  refine t_case_intro (fun h => ?_) (fun h => ?_)
  · simp only [aresult, ares, go_sem]
    simp at h
    simp [validItems]; omega
  · simp only [go_sem]
    simp at h
    refine t_loop_intro (fun k : Nat => k ≤ l.length ∧ (l.take k).all validItem = true) (fun k => l.length - k) 0 [2, 4, 10, 11, 12, 13, 14, 15, 16, 17, 18, 19, 20, 21, 22, 23, 24] (fun k => [(10, .a (.int .i64 k))]) ⟨by omega, by simp⟩ (by simp [havoc, sets, leF, leV]) (fun k => by simp [havoc, sets, boundV, boundS]) rfl ?_
    intro k hk0 fr' hfr
    have hk : k ≤ l.length := hk0.1
    have hall : (l.take k).all validItem = true := hk0.2
    clear hk0
    simp only [go_sem] at hfr
    subst hfr
    by_cases hlt : k < l.length
    · have h1 : (k : Int) < (l.length : Int) := by omega
      have e := rowsI l k hlt
      have ew := len63 l k hlt hl
      have es : (l.take (k + 1)).all validItem = ((l.take k).all validItem && validItem l[k]) := by
        rw [List.take_succ_eq_append_getElem hlt, List.all_append]; simp
      have ef : validItem l[k] = false → validItems l = false := fun hx => by
        unfold validItems
        rw [Bool.and_eq_false_iff]; right
        rw [List.all_eq_false]
        exact ⟨l[k], List.getElem_mem hlt, by rw [hx]; simp⟩
      simp only [h1, e, go_sem]
      refine t_call_intro (within_den _ _ _) ?_
      simp only [go_sem]
      refine t_case_intro (fun h2 => ?_) (fun h2 => ?_)
      · simp only [go_sem]
        refine t_case_intro (fun h3 => ?_) (fun h3 => ?_)
        · simp only [aresult, ares, go_sem]
          rw [ef (by simp at h3; simp [validItem]; omega)]
        · simp only [ew, go_sem]
          refine t_round (k + 1) ⟨by omega, ?_⟩ (by omega) (by simp [havoc, sets, leF, leV]) rfl rfl (by simp [havoc, sets, boundV, boundS]) rfl
          rw [es, hall]
          simp at h3 h2
          simp [validItem, h2]; omega
      · simp only [aresult, ares, go_sem]
        rw [ef (by simp [validItem, h2])]
    · have h1 : ¬ (k : Int) < (l.length : Int) := by omega
      simp only [h1, go_sem]
      simp only [aresult, ares, go_sem]
      rw [List.take_of_length_le (by omega)] at hall
      simp [validItems, hall]; omega
end Go.Proofs.Ytnhcahoeklpbfaa
