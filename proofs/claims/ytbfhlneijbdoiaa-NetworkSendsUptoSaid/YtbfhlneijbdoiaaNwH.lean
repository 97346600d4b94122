/- Chapter 40: the law NetworkKeeps, walked. -/
import Derived.Test.YtbfhlneijbdoiaaNwG
namespace Go.Proofs.Ytbfhlneijbdoiaa
open Go Ab
attribute [local irreducible] awp aops aop asoft aeff aloop acall acallI acallT
attribute [local go_sem] itemsA

theorem Msgs.fit.ok {l : List Msg} (h : Msgs.fit l) : Msgs.ok l := ⟨by have := h.1; omega, fun m hm => by have := h.2 m hm; omega⟩
theorem Msgs.fit.take {l : List Msg} (h : Msgs.fit l) (n : Nat) : Msgs.fit (l.take n) := ⟨by have := h.1; simp; omega, fun m hm => h.2 m (List.mem_of_mem_take hm)⟩
theorem Msgs.fit.drop {l : List Msg} (h : Msgs.fit l) (n : Nat) : Msgs.fit (l.drop n) := ⟨by have := h.1; simp; omega, fun m hm => h.2 m (List.mem_of_mem_drop hm)⟩
theorem Msgs.fit.app {a b : List Msg} (ha : Msgs.fit a) (hb : Msgs.fit b) (hl : a.length + b.length ≤ 1000) : Msgs.fit (a ++ b) := ⟨by simp; omega, fun m hm => (List.mem_append.1 hm).elim (ha.2 m) (hb.2 m)⟩
theorem sameAll_refl (a : List Msg) : allEq sameM a a = true := allEq_refl sameM_refl a

set_option maxRecDepth 100000 in
set_option maxHeartbeats 4000000 in
theorem keeps_out (l : List Msg) (i : Int) (hi : i < 0 ∨ (l.length : Int) ≤ i) : PDen Try.prog 5 [.a (.slice 9 (l.map Msg.row)), .a (.int .i64 i)] (.a (.bool true)) := by
  have e9 : ((9 : Int) == 9) = true := by decide
  have e0 : ((0 : Int) == 0) = true := by decide
  have en0 : (((0 : Nat) : Int) == 0) = true := by decide
  refine den_of_body k_law40_NetworkKeeps ⟨rfl, Nat.le_of_ble_eq_true rfl, thaw_intro ?_⟩
  unfold c_law40_NetworkKeeps
  simp only [go_sem]
  refine t_call_intro (deliver_out l i hi) ?_
  simp only [row9, row9t, go_sem]
  refine t_call_intro (drop_out l i hi) ?_
  simp only [go_sem]
  refine t_call_intro (dup_out l i hi) ?_
  simp only [go_sem]
  first | refine t_case_dec (fun h1 => ?_) (fun h1 => ?_) | refine t_case_ndec (fun h1 => ?_) (fun h1 => ?_) | refine t_case_eqI (fun h1 => ?_) (fun h1 => ?_) | refine t_case_neI (fun h1 => ?_) (fun h1 => ?_) | refine t_case_not (fun h1 => ?_) (fun h1 => ?_) | refine t_case_intro (fun h1 => ?_) (fun h1 => ?_)
  · simp only [e9, e0, en0, go_sem]
    refine t_call_intro (examples_den) ?_
    simp only [go_sem]
    simp only [aresult, ares, go_sem]
  · have h2 : (l.length : Int) ≤ i := by omega
    simp only [h2, e9, e0, en0, go_sem]
    refine t_call_intro (examples_den) ?_
    simp only [go_sem]
    simp only [aresult, ares, go_sem]
theorem erase_take {α : Type} (l : List α) (i : Nat) (hi : i < l.length) : (l.eraseIdx i).take i = l.take i := by
  rw [List.eraseIdx_eq_take_drop_succ, List.take_left' (by simp; omega)]
theorem erase_drop {α : Type} (l : List α) (i : Nat) (hi : i < l.length) : (l.eraseIdx i).drop i = l.drop (i + 1) := by
  rw [List.eraseIdx_eq_take_drop_succ, List.drop_left' (by simp; omega)]
theorem erase_end {α : Type} (l : List α) (x : α) : (l ++ [x]).eraseIdx l.length = l := by
  rw [List.eraseIdx_eq_take_drop_succ]; simp
set_option maxRecDepth 100000 in
set_option maxHeartbeats 4000000 in
theorem keeps_in (l : List Msg) (hl : Msgs.fit l) (i : Nat) (hi : i < l.length) : PDen Try.prog 5 [.a (.slice 9 (l.map Msg.row)), .a (.int .i64 i)] (.a (.bool true)) := by
  have h1 : ¬ (i : Int) < 0 := by omega
  have h2 : ¬ (l.length : Int) ≤ (i : Int) := by omega
  have h3 : (i : Int) < (l.length : Int) := by omega
  have e := getD_map Msg.row l i hi
  have er : l[i].row.length = 9 := rfl
  have et : l[i].row.take 9 = l[i].row := rfl
  have ea : (l[i].row.map AV.a).take 9 = l[i].row.map AV.a := rfl
  have e0 : ((0 : Int) == 0) = true := by decide
  have e0n : ((0 : Int) != 0) = false := by decide
  have hfi : Msgs.fit (l.eraseIdx i) := hl.erase i
  have hle : (l.eraseIdx i).length = l.length - 1 := List.length_eraseIdx_of_lt hi
  have hli := hl.1
  have ew : IntKind.i64.wrap ((l.length : Int) - 1) = ((l.length - 1 : Nat) : Int) := by rw [IntKind.wrap_i64]; omega
  have eq1 : (((l.length - 1 : Nat) : Int) != ((l.length - 1 : Nat) : Int)) = false := by simp
  have sr : sameM l[i] l[i] = true := sameM_refl _
  have ok1 : l[i].items.length ≤ 9223372036854775807 := by have := hl.at_ i hi; omega
  have sa := sameAll_refl (l.eraseIdx i)
  have t1 : ((l.eraseIdx i).map Msg.row).take i = (l.take i).map Msg.row := by rw [← List.map_take, erase_take l i hi]
  have t2 : (l.map Msg.row).take i = (l.take i).map Msg.row := by rw [List.map_take]
  have t3 : (((l.eraseIdx i).map Msg.row).take (l.length - 1)).drop i = (l.drop (i + 1)).map Msg.row := by
    rw [List.take_of_length_le (by simp [hle]), ← List.map_drop, erase_drop l i hi]
  have t4 : ((l.map Msg.row).take l.length).drop (i + 1) = (l.drop (i + 1)).map Msg.row := by
    rw [List.take_of_length_le (by simp), ← List.map_drop]
  have ei : IntKind.i64.wrap ((i : Int) + 1) = ((i + 1 : Nat) : Int) := by rw [IntKind.wrap_i64]; omega
  have e17 : ((17 : Int) == 17) = true := by decide
  have en0 : (((0 : Nat) : Int) == 0) = true := by decide
  have eqm : (((l.length - 1 + 1 : Nat) : Int) != (l.length : Int)) = false := by simp; omega
  have hsend : l.length ≤ 256 → PDen Try.prog 18 [.a (.slice 9 ((l.eraseIdx i).map Msg.row)), .a (.slice 9 [l[i].row])] (.a (.slice 9 ((l.eraseIdx i ++ [l[i]]).map Msg.row))) := fun hle' => by
    have := send_den (l.eraseIdx i) [l[i]] hfi ⟨by simp, fun m hm => by simp at hm; subst hm; exact hl.at_ i hi⟩ (by simp; omega)
    rw [List.take_of_length_le (by simp; omega)] at this
    exact this
  have t5 : ((l.eraseIdx i ++ [l[i]]).map Msg.row).take (l.length - 1) = (l.eraseIdx i).map Msg.row := by
    rw [← List.map_take, List.take_left' hle]
  have t6 : ((l.eraseIdx i ++ [l[i]]).map Msg.row).getD (l.length - 1) [] = l[i].row := by
    rw [← hle]; simp
  have ew2 : IntKind.i64.wrap ((l.length : Int) + 1) = ((l.length + 1 : Nat) : Int) := by rw [IntKind.wrap_i64]; omega
  have eq2 : (((l.length + 1 : Nat) : Int) != ((l.length + 1 : Nat) : Int)) = false := by simp
  have t7 : ((l ++ [l[i]]).map Msg.row).getD l.length [] = l[i].row := by simp
  have hdrop : l.length ≤ 256 → PDen Try.prog 15 [.a (.slice 9 ((l ++ [l[i]]).map Msg.row)), .a (.int .i64 l.length)] (.tup [.a (.slice 9 (l.map Msg.row)), .a (.int .i64 0)]) := fun hle' => by
    have := drop_den (l ++ [l[i]]) l.length (by simp) (hl.app ⟨by simp, fun m hm => by simp at hm; subst hm; exact hl.at_ i hi⟩ (by simp; omega))
    rw [erase_end] at this
    exact this
  have s3 := sameAll_refl l
  have s1 := sameAll_refl (l.take i)
  have s2 := sameAll_refl (l.drop (i + 1))
  refine den_of_body k_law40_NetworkKeeps ⟨rfl, Nat.le_of_ble_eq_true rfl, thaw_intro ?_⟩
  unfold c_law40_NetworkKeeps
  simp only [go_sem]
  refine t_call_intro (deliver_den l i hi hl) ?_
  simp only [er, et, go_sem]
  refine t_call_intro (drop_den l i hi hl) ?_
  simp only [go_sem]
  by_cases hA : l.length < 256
  · have hA' : ¬ (256 : Int) ≤ (l.length : Int) := by omega
    have hB : (l.length : Int) ≤ 256 := by omega
    refine t_call_intro (dup_den l i hi hA hl) ?_
    simp only [h1, h2, h3, e0n, e, er, et, ea, e17, go_sem]
    refine t_call_intro (rsame_den l[i] l[i] ok1 ok1) ?_
    simp only [sr, hle, ew, eq1, go_sem]
    refine t_call_intro (rsameAll_den _ _ hfi.ok hfi.ok) ?_
    simp only [sa, hle, go_sem]
    refine t_gate_intro (by simp; omega) ?_
    simp only [t1, t2, go_sem]
    refine t_gate_intro (by simp; omega) ?_
    simp only [t1, t2, go_sem]
    refine t_call_intro (rsameAll_den _ _ (hl.take i).ok (hl.take i).ok) ?_
    simp only [s1, hle, ei, go_sem]
    refine t_gate_intro (by simp; omega) ?_
    simp only [t3, t4, ei, go_sem]
    refine t_gate_intro (by simp; omega) ?_
    simp only [t3, t4, ei, go_sem]
    refine t_call_intro (rsameAll_den _ _ (hl.drop (i + 1)).ok (hl.drop (i + 1)).ok) ?_
    simp only [s2, hB, er, ea, et, go_sem]
    refine t_call_intro (hsend (by omega)) ?_
    simp only [hle, eqm, go_sem]
    refine t_gate_intro (by simp; omega) ?_
    simp only [t5, hle, go_sem]
    refine t_call_intro (rsameAll_den _ _ hfi.ok hfi.ok) ?_
    simp only [sa, hle, go_sem]
    refine t_gate_intro (by first | (simp; done) | (simp; omega)) ?_
    simp only [t6, er, ea, et, go_sem]
    refine t_call_intro (rsame_den l[i] l[i] ok1 ok1) ?_
    simp only [sr, hA', e0n, ew2, eq2, go_sem]
    refine t_gate_intro (by first | (simp; done) | omega) ?_
    simp only [t7, er, ea, et, go_sem]
    refine t_call_intro (rsame_den l[i] l[i] ok1 ok1) ?_
    simp only [sr, go_sem]
    refine t_call_intro (hdrop (by omega)) ?_
    simp only [e0, go_sem]
    refine t_call_intro (rsameAll_den _ _ hl.ok hl.ok) ?_
    simp only [s3, go_sem]
    refine t_call_intro (examples_den) ?_
    simp only [go_sem]
    simp only [aresult, ares, go_sem]
  · have hA' : (256 : Int) ≤ (l.length : Int) := by omega
    by_cases hB : (l.length : Int) ≤ 256
    · refine t_call_intro (dup_full l i hi (by omega)) ?_
      simp only [h1, h2, h3, e0n, e, er, et, ea, e17, go_sem]
      refine t_call_intro (rsame_den l[i] l[i] ok1 ok1) ?_
      simp only [sr, hle, ew, eq1, go_sem]
      refine t_call_intro (rsameAll_den _ _ hfi.ok hfi.ok) ?_
      simp only [sa, hle, go_sem]
      refine t_gate_intro (by simp; omega) ?_
      simp only [t1, t2, go_sem]
      refine t_gate_intro (by simp; omega) ?_
      simp only [t1, t2, go_sem]
      refine t_call_intro (rsameAll_den _ _ (hl.take i).ok (hl.take i).ok) ?_
      simp only [s1, hle, ei, go_sem]
      refine t_gate_intro (by simp; omega) ?_
      simp only [t3, t4, ei, go_sem]
      refine t_gate_intro (by simp; omega) ?_
      simp only [t3, t4, ei, go_sem]
      refine t_call_intro (rsameAll_den _ _ (hl.drop (i + 1)).ok (hl.drop (i + 1)).ok) ?_
      simp only [s2, hB, er, ea, et, go_sem]
      refine t_call_intro (hsend (by omega)) ?_
      simp only [hle, eqm, go_sem]
      refine t_gate_intro (by simp; omega) ?_
      simp only [t5, hle, go_sem]
      refine t_call_intro (rsameAll_den _ _ hfi.ok hfi.ok) ?_
      simp only [sa, hle, go_sem]
      refine t_gate_intro (by first | (simp; done) | (simp; omega)) ?_
      simp only [t6, er, ea, et, go_sem]
      refine t_call_intro (rsame_den l[i] l[i] ok1 ok1) ?_
      simp only [sr, hA', e17, en0, e0, go_sem]
      refine t_call_intro (examples_den) ?_
      simp only [go_sem]
      simp only [aresult, ares, go_sem]
    · refine t_call_intro (dup_full l i hi (by omega)) ?_
      simp only [h1, h2, h3, e0n, e, er, et, ea, e17, go_sem]
      refine t_call_intro (rsame_den l[i] l[i] ok1 ok1) ?_
      simp only [sr, hle, ew, eq1, go_sem]
      refine t_call_intro (rsameAll_den _ _ hfi.ok hfi.ok) ?_
      simp only [sa, hle, go_sem]
      refine t_gate_intro (by simp; omega) ?_
      simp only [t1, t2, go_sem]
      refine t_gate_intro (by simp; omega) ?_
      simp only [t1, t2, go_sem]
      refine t_call_intro (rsameAll_den _ _ (hl.take i).ok (hl.take i).ok) ?_
      simp only [s1, hle, ei, go_sem]
      refine t_gate_intro (by simp; omega) ?_
      simp only [t3, t4, ei, go_sem]
      refine t_gate_intro (by simp; omega) ?_
      simp only [t3, t4, ei, go_sem]
      refine t_call_intro (rsameAll_den _ _ (hl.drop (i + 1)).ok (hl.drop (i + 1)).ok) ?_
      simp only [s2, hB, hA', e17, en0, e0, go_sem]
      refine t_call_intro (examples_den) ?_
      simp only [go_sem]
      simp only [aresult, ares, go_sem]
theorem keeps_den (l : List Msg) (hl : Msgs.fit l) (i : Int) : PDen Try.prog 5 [.a (.slice 9 (l.map Msg.row)), .a (.int .i64 i)] (.a (.bool true)) := by
  by_cases h : i < 0 ∨ (l.length : Int) ≤ i
  · exact keeps_out l i h
  · have := keeps_in l hl i.toNat (by omega)
    rwa [show ((i.toNat : Nat) : Int) = i by omega] at this
end Go.Proofs.Ytbfhlneijbdoiaa
