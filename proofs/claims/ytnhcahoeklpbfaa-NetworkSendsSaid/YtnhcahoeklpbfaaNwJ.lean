/- Layer 40: the package's copies with room for more, and Send, of every length. -/
import Derived.Test.YtnhcahoeklpbfaaNwH
import Derived.Test.YtnhcahoeklpbfaaCodc
set_option linter.unusedSimpArgs false
set_option linter.unusedVariables false
namespace Go.Proofs.Ytnhcahoeklpbfaa
open Go Ab
attribute [local irreducible] awp aops aop asoft aeff aloop acall acallI acallT acallF acallFC
attribute [local go_sem] itemsA

set_option maxRecDepth 100000 in
set_option maxHeartbeats 1000000 in
theorem copiedC_iden (l : List Msg) (n : Nat) (hl : Msgs.fit l) (hn : n * 88 ≤ 140737488351232) : IDen Try.prog 18 [.a (.slice 9 (l.map Msg.row)), .a (.int .i64 n)] [] [] (.ownc 0 (l.length + n)) [] [⟨25, 9, l.map Msg.row, false⟩] false := by
  obtain ⟨h1, h2⟩ := hl
  have ew : IntKind.i64.wrap ((l.length : Int) + (n : Int)) = ((l.length + n : Nat) : Int) := by rw [IntKind.wrap_i64]; omega
  refine iden_of_body k_network_copied_c ⟨rfl, Nat.le_of_ble_eq_true rfl, ⟨by simp, (by simp), rfl⟩, thaw_intro ?_⟩
  unfold c_network_copied_c
  simp only [ew, go_sem]
  refine t_gate_intro (by simp; omega) ?_
  simp only [go_sem]
  have ec : copied (List.replicate l.length [.int .i64 0, .int .i64 0, .int .i64 0, .int .i64 0, .int .i64 0, .int .i64 0, .int .i64 0, .bool false, .nils]) (l.map Msg.row) 0 = l.map Msg.row := copied_all _ _ (by simp)
  simp only [ec, go_sem]
  refine t_loopO_intro [] (fun k : Nat => k ≤ l.length) (fun k => l.length - k) 0 [6, 19, 20, 21, 22, 23, 24, 25, 26, 27, 28, 29, 30] (fun k => [(19, .a (.int .i64 k))]) (fun k => []) (fun k => [⟨25, 9, l.map Msg.row, true⟩]) (by omega) (by simp) (by simp) (by simp) (by simp) (fun k => by simp) (fun k => by simp) (fun k => by simp) ?_
  intro k hk st_ hst
  simp only [go_sem] at hst
  subst hst
  by_cases hlt : k < l.length
  · have h3 : (k : Int) < (l.length : Int) := by omega
    have e := getD_map Msg.row l k hlt
    have er : l[k].row.length = 9 := rfl
    have et : l[k].row.take 9 = l[k].row := rfl
    have ed : l[k].row.drop 9 = [] := rfl
    have eset : (l.map Msg.row).set k l[k].row = l.map Msg.row := by
      have := set_same (l.map Msg.row) k (by simpa using hlt)
      simpa using this
    have ekn := wrap1 k l.length hlt (by omega)
    simp only [h3, e, et, hlt, go_sem]
    refine t_call_intro (clone_den l[k] (h2 _ (List.getElem_mem hlt))) ?_
    simp only [h3, e, et, er, ed, eset, hlt, go_sem]
    simp only [ekn, go_sem]
    refine t_roundO (k + 1) (by omega) (by omega) (by simp) (by simp) (by simp) (by simp) (by simp)
  · have h3 : ¬ (k : Int) < (l.length : Int) := by omega
    simp only [h3, go_sem]
    simp only [aresultI, aresI, go_sem]
set_option maxRecDepth 100000 in
set_option maxHeartbeats 1000000 in
theorem send3_den (a b : List Msg) (ha : Msgs.fit a) (hb : Msgs.fit b) : PDen Try.prog 8 [.a (.slice 9 (a.map Msg.row)), .a (.slice 9 (b.map Msg.row))] (.a (.slice 9 (((a ++ b).take 256).map Msg.row))) := by
  have ha1 := ha.1
  have hb1 := hb.1
  refine den_of_body k_network_Send_c ⟨rfl, Nat.le_of_ble_eq_true rfl, thaw_intro ?_⟩
  unfold c_network_Send_c
  simp only [go_sem]
  refine t_callFC_intro (copiedC_iden a b.length ha (by omega)) ?_
  simp only [go_sem]
  refine t_call_intro (copied_den b 0 hb (by omega)) ?_
  simp only [go_sem]
  refine t_gate_intro (by omega) ?_
  simp only [go_sem]
  obtain ⟨N, hm, em, et⟩ : ∃ N : Nat, N ≤ a.length + b.length ∧ (if (256 : Int) < ((a.length + b.length : Nat) : Int) then (256 : Int) else ((a.length + b.length : Nat) : Int)) = (N : Int) ∧ (a.map Msg.row ++ b.map Msg.row).take N = ((a ++ b).take 256).map Msg.row := by
    by_cases h : (256 : Int) < ((a.length + b.length : Nat) : Int)
    · exact ⟨256, by omega, by rw [if_pos h]; rfl, by rw [← List.map_append, ← List.map_take]⟩
    · exact ⟨_, Nat.le_refl _, by rw [if_neg h], by rw [← List.map_append, ← List.map_take, List.take_of_length_le (by simp), List.take_of_length_le (by simp; omega)]⟩
  refine t_gate_intro (by rw [em]; omega) ?_
  simp only [em, et, go_sem]
  simp only [aresult, ares, go_sem]
end Go.Proofs.Ytnhcahoeklpbfaa
