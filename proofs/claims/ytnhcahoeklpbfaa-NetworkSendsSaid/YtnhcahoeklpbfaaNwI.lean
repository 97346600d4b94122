/- Layer 40: the reference's lists of messages in transit; the law NetworkSends, walked. -/
import Derived.Test.YtnhcahoeklpbfaaNwJ
set_option linter.unusedSimpArgs false
set_option linter.unusedVariables false
namespace Go.Proofs.Ytnhcahoeklpbfaa
open Go Ab
attribute [local irreducible] awp aops aop asoft aeff aloop acall acallI acallT
attribute [local go_sem] itemsA

theorem gate88t (n : Nat) (h : n * 88 ≤ 140737488351232) : (n + 1 + (n + 1) / 4 + 192) * 88 ≤ 281474976710656 ∧ n ≤ 9223372036854775806 := by
  have := Nat.div_le_self (n + 1) 4
  omega
def upA (l : List Msg) (k : Nat) : List (List Atom) := (l.take k).map Msg.row
theorem upA_zero (l : List Msg) : upA l 0 = [] := by simp [upA]
theorem upA_len (l : List Msg) (k : Nat) : (upA l k).length ≤ k := by simp [upA]; omega
theorem upA_step (l : List Msg) (k : Nat) (h : k < l.length) : upA l (k + 1) = upA l k ++ [l[k].row] := by
  unfold upA
  rw [List.take_succ_eq_append_getElem h, List.map_append]; rfl
def woA (l : List Msg) (i k : Nat) : List (List Atom) := ((l.take k).eraseIdx i).map Msg.row
theorem woA_zero (l : List Msg) (i : Nat) : woA l i 0 = [] := by simp [woA]
theorem woA_len (l : List Msg) (i k : Nat) : (woA l i k).length ≤ k := by
  have h1 := List.length_eraseIdx_le (l.take k) i
  have h2 := List.length_take_le k l
  simp only [woA, List.length_map]; omega
theorem woA_yes (l : List Msg) (i k : Nat) (h : k < l.length) (hk : k ≠ i) : woA l i (k + 1) = woA l i k ++ [l[k].row] := by
  unfold woA
  rw [List.take_succ_eq_append_getElem h]
  have hl : (l.take k).length = k := by rw [List.length_take]; omega
  rcases Nat.lt_or_ge i k with hi | hi
  · rw [List.eraseIdx_append_of_lt_length (by omega), List.map_append]; rfl
  · rw [List.eraseIdx_of_length_le (by simp; omega), List.eraseIdx_of_length_le (by omega), List.map_append]; rfl
theorem woA_no (l : List Msg) (k : Nat) (h : k < l.length) : woA l k (k + 1) = woA l k k := by
  unfold woA
  rw [List.take_succ_eq_append_getElem h]
  have hl : (l.take k).length = k := by rw [List.length_take]; omega
  rw [List.eraseIdx_append_of_length_le (by omega), List.eraseIdx_of_length_le (l := l.take k) (by omega), hl]
  simp
set_option maxRecDepth 100000 in
set_option maxHeartbeats 1000000 in
theorem rwithout_den (l : List Msg) (i : Nat) (hl : Msgs.fit l) : PDen Try.prog 17 [.a (.slice 9 (l.map Msg.row)), .a (.int .i64 i)] (.a (.slice 9 ((l.eraseIdx i).map Msg.row))) := by
  have hl1 := hl.1
  refine den_of_body k_ref40_without ⟨rfl, Nat.le_of_ble_eq_true rfl, thaw_intro ?_⟩
  unfold c_ref40_without
  simp only [go_sem]
  refine t_loopO_intro [.slot 5 25 9] (fun k : Nat => k ≤ l.length) (fun k => l.length - k) 0 [5, 6, 7, 8, 9, 10, 11, 12, 13, 14, 15, 16, 17, 18, 19, 20, 21, 22] (fun k => [(5, .own 0), (6, .a (.int .i64 k))]) (fun k => []) (fun k => [⟨25, 9, woA l i k, false⟩]) (by omega) (by simp) (by first | (simp; done) | simp [woA_zero]) (by first | (simp; done) | simp [woA_zero]) (by first | (simp; done) | simp [woA_zero]) (fun k => by first | (simp; done) | simp [woA_zero]) (fun k => by first | (simp; done) | simp [woA_zero]) (fun k => by first | (simp; done) | simp [woA_zero]) ?_
  intro k hk st_ hst
  simp only [go_sem] at hst
  subst hst
  by_cases hlt : k < l.length
  · have h3 : (k : Int) < (l.length : Int) := by omega
    have ew := wrap1 k l.length hlt (by omega)
    have e := getD_map Msg.row l k hlt
    have er : l[k].row.length = 9 := rfl
    have et : l[k].row.take 9 = l[k].row := rfl
    have hlen := woA_len l i k
    simp only [h3, go_sem]
    first | refine t_case_dec (fun h4 => ?_) (fun h4 => ?_) | refine t_case_ndec (fun h4 => ?_) (fun h4 => ?_) | refine t_case_eqI (fun h4 => ?_) (fun h4 => ?_) | refine t_case_neI (fun h4 => ?_) (fun h4 => ?_) | refine t_case_not (fun h4 => ?_) (fun h4 => ?_) | refine t_case_intro (fun h4 => ?_) (fun h4 => ?_)
    rotate_left
    · have h5 : k ≠ i := by intro hc; subst hc; simp at h4
      have es := woA_yes l i k hlt h5
      simp only [h3, e, er, et, go_sem]
      refine t_gate_intro (gate88t _ (by omega)) ?_
      simp only [ew, go_sem]
      refine t_roundO (k + 1) (by omega) (by omega) (by first | (simp; done) | simp [es]) (by first | (simp; done) | simp [es]) (by first | (simp; done) | simp [es]) (by first | (simp; done) | simp [es]) (by first | (simp; done) | simp [es])
    · have h5 : k = i := by omega
      subst h5
      have es := woA_no l k hlt
      simp only [ew, go_sem]
      refine t_roundO (k + 1) (by omega) (by omega) (by first | (simp; done) | simp [es]) (by first | (simp; done) | simp [es]) (by first | (simp; done) | simp [es]) (by first | (simp; done) | simp [es]) (by first | (simp; done) | simp [es])
  · have h3 : ¬ (k : Int) < (l.length : Int) := by omega
    have hke : k = l.length := by omega
    simp only [h3, go_sem]
    simp only [aresult, ares, go_sem]
    unfold woA
    rw [hke, List.take_length]
set_option maxRecDepth 100000 in
set_option maxHeartbeats 1000000 in
theorem rsend_den (a b : List Msg) (ha : Msgs.fit a) (hb : Msgs.fit b) : PDen Try.prog 9 [.a (.slice 9 (a.map Msg.row)), .a (.slice 9 (b.map Msg.row))] (.a (.slice 9 (((a ++ b).take 256).map Msg.row))) := by
  have ha1 := ha.1
  have hb1 := hb.1
  have ew0 : IntKind.i64.wrap ((a.length : Int) + (b.length : Int)) = ((a.length + b.length : Nat) : Int) := by rw [IntKind.wrap_i64]; omega
  refine den_of_body k_ref40_Send ⟨rfl, Nat.le_of_ble_eq_true rfl, thaw_intro ?_⟩
  unfold c_ref40_Send
  simp only [go_sem]
  refine t_loopO_intro [.slot 5 25 9] (fun k : Nat => k ≤ min (a.length + b.length) 256) (fun k => min (a.length + b.length) 256 - k) 0 [5, 6, 7, 8, 9, 10, 11, 12, 13, 14, 15, 16, 17, 18, 19, 20, 21, 22, 23, 24, 25, 26, 27, 28, 29, 30, 31, 32, 33, 34, 35, 36, 37, 38, 39, 40] (fun k => [(5, .own 0), (6, .a (.int .i64 k))]) (fun k => []) (fun k => [⟨25, 9, upA (a ++ b) k, false⟩]) (by omega) (by simp) (by first | (simp; done) | simp [upA_zero]) (by first | (simp; done) | simp [upA_zero]) (by first | (simp; done) | simp [upA_zero]) (fun k => by first | (simp; done) | simp [upA_zero]) (fun k => by first | (simp; done) | simp [upA_zero]) (fun k => by first | (simp; done) | simp [upA_zero]) ?_
  intro k hk st_ hst
  simp only [go_sem] at hst
  subst hst
  by_cases hlt : k < min (a.length + b.length) 256
  · have h3 : (k : Int) < ((a.length + b.length : Nat) : Int) := by omega
    have h4 : (k : Int) < 256 := by omega
    have hk2 : k < (a ++ b).length := by rw [List.length_append]; omega
    have ew := wrap1 k 256 (by omega) (by omega)
    have es := upA_step (a ++ b) k hk2
    have hlen := upA_len (a ++ b) k
    simp only [ew0, h3, h4, go_sem]
    by_cases hka : k < a.length
    · have h5 : (k : Int) < (a.length : Int) := by omega
      have e := getD_map Msg.row a k hka
      have er : a[k].row.length = 9 := rfl
      have et : a[k].row.take 9 = a[k].row := rfl
      rw [List.getElem_append_left hka] at es
      simp only [h5, e, er, et, go_sem]
      refine t_gate_intro (gate88t _ (by omega)) ?_
      simp only [ew, go_sem]
      refine t_roundO (k + 1) (by omega) (by omega) (by first | (simp; done) | simp [es]) (by first | (simp; done) | simp [es]) (by first | (simp; done) | simp [es]) (by first | (simp; done) | simp [es]) (by first | (simp; done) | simp [es])
    · have h5 : ¬ (k : Int) < (a.length : Int) := by omega
      have hkb : k - a.length < b.length := by omega
      have e := getD_map Msg.row b (k - a.length) hkb
      have er : b[k - a.length].row.length = 9 := rfl
      have et : b[k - a.length].row.take 9 = b[k - a.length].row := rfl
      have ews : IntKind.i64.wrap ((k : Int) - (a.length : Int)) = ((k - a.length : Nat) : Int) := by rw [IntKind.wrap_i64]; omega
      have h6 : ((k - a.length : Nat) : Int) < (b.length : Int) := by omega
      rw [List.getElem_append_right (by omega)] at es
      simp only [h5, ews, h6, e, er, et, go_sem]
      refine t_gate_intro (gate88t _ (by omega)) ?_
      simp only [ew, go_sem]
      refine t_roundO (k + 1) (by omega) (by omega) (by first | (simp; done) | simp [es]) (by first | (simp; done) | simp [es]) (by first | (simp; done) | simp [es]) (by first | (simp; done) | simp [es]) (by first | (simp; done) | simp [es])
  · have fin : ∀ hall : ((a ++ b).take k) = (a ++ b).take 256, upA (a ++ b) k = ((a ++ b).take 256).map Msg.row := fun h => by unfold upA; rw [h]
    by_cases hc : k < a.length + b.length
    · have hk6 : k = 256 := by omega
      have h3 : (k : Int) < ((a.length + b.length : Nat) : Int) := by omega
      have h4 : ¬ (k : Int) < 256 := by omega
      simp only [ew0, h3, h4, go_sem]
      simp only [aresult, ares, go_sem]
      rw [fin (by rw [hk6])]
    · have h3 : ¬ (k : Int) < ((a.length + b.length : Nat) : Int) := by omega
      simp only [ew0, h3, go_sem]
      simp only [aresult, ares, go_sem]
      rw [fin (by rw [List.take_of_length_le (by simp; omega), List.take_of_length_le (by simp; omega)])]

set_option maxRecDepth 100000 in
set_option maxHeartbeats 1000000 in
theorem rdeliver_den (l : List Msg) (i : Nat) (hi : i < l.length) (hl : Msgs.fit l) : PDen Try.prog 5 [.a (.slice 9 (l.map Msg.row)), .a (.int .i64 i)]
    (.tup [.agg l[i].row, .a (.slice 9 ((l.eraseIdx i).map Msg.row)), .a (.int .i64 0)]) := by
  have h1 : ¬ (i : Int) < 0 := by omega
  have h2 : ¬ (l.length : Int) ≤ (i : Int) := by omega
  have h3 : (i : Int) < (l.length : Int) := by omega
  have e := getD_map Msg.row l i hi
  have er : l[i].row.length = 9 := rfl
  have et : l[i].row.take 9 = l[i].row := rfl
  refine den_of_body k_ref40_Deliver ⟨rfl, Nat.le_of_ble_eq_true rfl, thaw_intro ?_⟩
  unfold c_ref40_Deliver
  simp only [h1, h2, h3, e, er, et, go_sem]
  refine t_call_intro (rwithout_den l i hl) ?_
  simp only [h1, h2, h3, e, er, et, go_sem]
  have et2 : (l[i].row.map AV.a).take 9 = l[i].row.map AV.a := rfl
  simp only [aresult, ares, et2, er, go_sem]
set_option maxRecDepth 100000 in
set_option maxHeartbeats 1000000 in
theorem rdeliver_out (l : List Msg) (i : Int) (hi : i < 0 ∨ (l.length : Int) ≤ i) : PDen Try.prog 5 [.a (.slice 9 (l.map Msg.row)), .a (.int .i64 i)]
    (.tup [.agg zeroM.row, .a (.slice 9 []), .a (.int .i64 9)]) := by
  refine PDen.le (r := .tup [.agg [.int .i64 0, .int .i64 0, .int .i64 0, .int .i64 0, .int .i64 0, .int .i64 0, .int .i64 0, .bool false, .nils], .a .nils, .a (.int .i64 9)]) ?_ (VLe.tup ⟨zeroM_le, VLe.a (RLe.nils 9), VLe.refl _, trivial⟩)
  refine den_of_body k_ref40_Deliver ⟨rfl, Nat.le_of_ble_eq_true rfl, thaw_intro ?_⟩
  unfold c_ref40_Deliver
  simp only [go_sem]
  first | refine t_case_dec (fun h1 => ?_) (fun h1 => ?_) | refine t_case_ndec (fun h1 => ?_) (fun h1 => ?_) | refine t_case_eqI (fun h1 => ?_) (fun h1 => ?_) | refine t_case_neI (fun h1 => ?_) (fun h1 => ?_) | refine t_case_not (fun h1 => ?_) (fun h1 => ?_) | refine t_case_intro (fun h1 => ?_) (fun h1 => ?_)
  · simp only [go_sem]
    simp only [aresult, ares, go_sem]
  · have h2 : (l.length : Int) ≤ i := by omega
    simp only [h2, go_sem]
    simp only [aresult, ares, go_sem]
set_option maxRecDepth 100000 in
set_option maxHeartbeats 1000000 in
theorem rdrop_den (l : List Msg) (i : Nat) (hi : i < l.length) (hl : Msgs.fit l) : PDen Try.prog 11 [.a (.slice 9 (l.map Msg.row)), .a (.int .i64 i)]
    (.tup [.a (.slice 9 ((l.eraseIdx i).map Msg.row)), .a (.int .i64 0)]) := by
  have er : l[i].row.length = 9 := rfl
  refine den_of_body k_ref40_Drop ⟨rfl, Nat.le_of_ble_eq_true rfl, thaw_intro ?_⟩
  unfold c_ref40_Drop
  simp only [go_sem]
  refine t_call_intro (rdeliver_den l i hi hl) ?_
  simp only [er, go_sem]
  simp only [aresult, ares, go_sem]
set_option maxRecDepth 100000 in
set_option maxHeartbeats 1000000 in
theorem rdrop_out (l : List Msg) (i : Int) (hi : i < 0 ∨ (l.length : Int) ≤ i) : PDen Try.prog 11 [.a (.slice 9 (l.map Msg.row)), .a (.int .i64 i)] (.tup [.a (.slice 9 []), .a (.int .i64 9)]) := by
  have er : zeroM.row.length = 9 := rfl
  refine den_of_body k_ref40_Drop ⟨rfl, Nat.le_of_ble_eq_true rfl, thaw_intro ?_⟩
  unfold c_ref40_Drop
  simp only [go_sem]
  refine t_call_intro (rdeliver_out l i hi) ?_
  simp only [er, go_sem]
  simp only [aresult, ares, go_sem]
set_option maxRecDepth 100000 in
set_option maxHeartbeats 1000000 in
theorem rdup_den (l : List Msg) (i : Nat) (hi : i < l.length) (hs : l.length < 256) (hl : Msgs.fit l) : PDen Try.prog 13 [.a (.slice 9 (l.map Msg.row)), .a (.int .i64 i)] (.tup [.a (.slice 9 ((l ++ [l[i]]).map Msg.row)), .a (.int .i64 0)]) := by
  have h1 : ¬ (i : Int) < 0 := by omega
  have h2 : ¬ (l.length : Int) ≤ (i : Int) := by omega
  have h3 : (i : Int) < (l.length : Int) := by omega
  have h4 : ¬ (256 : Int) ≤ (l.length : Int) := by omega
  have e := getD_map Msg.row l i hi
  have er : l[i].row.length = 9 := rfl
  have et : l[i].row.take 9 = l[i].row := rfl
  have hsd : PDen Try.prog 9 [.a (.slice 9 (l.map Msg.row)), .a (.slice 9 [l[i].row])] (.a (.slice 9 ((l ++ [l[i]]).map Msg.row))) := by
    have := rsend_den l [l[i]] hl ⟨by simp, fun m hm => by simp at hm; subst hm; exact hl.at_ i hi⟩
    rw [List.take_of_length_le (by simp; omega)] at this
    exact this
  refine den_of_body k_ref40_Duplicate ⟨rfl, Nat.le_of_ble_eq_true rfl, thaw_intro ?_⟩
  unfold c_ref40_Duplicate
  simp only [h1, h2, h3, h4, e, er, et, go_sem]
  refine t_call_intro (hsd) ?_
  simp only [go_sem]
  simp only [aresult, ares, go_sem]
set_option maxRecDepth 100000 in
set_option maxHeartbeats 1000000 in
theorem rdup_full (l : List Msg) (i : Nat) (hi : i < l.length) (hs : 256 ≤ l.length) : PDen Try.prog 13 [.a (.slice 9 (l.map Msg.row)), .a (.int .i64 i)] (.tup [.a .nils, .a (.int .i64 17)]) := by
  have h1 : ¬ (i : Int) < 0 := by omega
  have h2 : ¬ (l.length : Int) ≤ (i : Int) := by omega
  have h4 : (256 : Int) ≤ (l.length : Int) := by omega
  refine den_of_body k_ref40_Duplicate ⟨rfl, Nat.le_of_ble_eq_true rfl, thaw_intro ?_⟩
  unfold c_ref40_Duplicate
  simp only [h1, h2, h4, go_sem]
  simp only [aresult, ares, go_sem]
set_option maxRecDepth 100000 in
set_option maxHeartbeats 1000000 in
theorem rdup_out (l : List Msg) (i : Int) (hi : i < 0 ∨ (l.length : Int) ≤ i) : PDen Try.prog 13 [.a (.slice 9 (l.map Msg.row)), .a (.int .i64 i)] (.tup [.a .nils, .a (.int .i64 9)]) := by
  refine den_of_body k_ref40_Duplicate ⟨rfl, Nat.le_of_ble_eq_true rfl, thaw_intro ?_⟩
  unfold c_ref40_Duplicate
  simp only [go_sem]
  first | refine t_case_dec (fun h1 => ?_) (fun h1 => ?_) | refine t_case_ndec (fun h1 => ?_) (fun h1 => ?_) | refine t_case_eqI (fun h1 => ?_) (fun h1 => ?_) | refine t_case_neI (fun h1 => ?_) (fun h1 => ?_) | refine t_case_not (fun h1 => ?_) (fun h1 => ?_) | refine t_case_intro (fun h1 => ?_) (fun h1 => ?_)
  · simp only [go_sem]
    simp only [aresult, ares, go_sem]
  · have h2 : (l.length : Int) ≤ i := by omega
    simp only [h2, go_sem]
    simp only [aresult, ares, go_sem]
theorem nilsAll : Msgs.ok [] := ⟨by simp, fun m hm => by cases hm⟩
theorem all_nil_den : PDen Try.prog 7 [.a (.slice 9 []), .a (.slice 9 [])] (.a (.bool true)) := by
  have := rsameAll_den [] [] nilsAll nilsAll
  exact this
theorem all_nils_den : PDen Try.prog 7 [.a .nils, .a .nils] (.a (.bool true)) :=
  PDen.args all_nil_den ⟨VLe.a (RLe.nils 9), VLe.a (RLe.nils 9), trivial⟩
theorem all_nilr_den : PDen Try.prog 7 [.a .nils, .a (.slice 9 [])] (.a (.bool true)) :=
  PDen.args all_nil_den ⟨VLe.a (RLe.nils 9), VLe.refl _, trivial⟩
set_option maxRecDepth 100000 in
set_option maxHeartbeats 4000000 in
theorem sends_out (l b : List Msg) (hl : Msgs.fit l) (hb : Msgs.fit b) (i : Int) (hi : i < 0 ∨ (l.length : Int) ≤ i) : PDen Try.prog 3 [.a (.slice 9 (l.map Msg.row)), .a (.slice 9 (b.map Msg.row)), .a (.int .i64 i)] (.a (.bool true)) := by
  have e9 : ((9 : Int) == 9) = true := by decide
  have n9 : ((9 : Int) != 9) = false := by decide
  have sr : sameM zeroM zeroM = true := sameM_refl _
  have z9 : zeroM.row.length = 9 := rfl
  have z9t : zeroM.row.take 9 = zeroM.row := rfl
  have z9a : (zeroM.row.map AV.a).take 9 = zeroM.row.map AV.a := rfl
  have fT : Msgs.ok ((l ++ b).take 256) := by
    refine ⟨by simp; omega, fun m hm => ?_⟩
    have hm := List.mem_of_mem_take hm
    rcases List.mem_append.1 hm with h | h
    · have := hl.2 m h; omega
    · have := hb.2 m h; omega
  have sT := sameAll_refl ((l ++ b).take 256)
  refine den_of_body k_law40_NetworkSends ⟨rfl, Nat.le_of_ble_eq_true rfl, thaw_intro ?_⟩
  unfold c_law40_NetworkSends
  simp only [go_sem]
  refine t_call_intro (deliver_out l i hi) ?_
  simp only [z9, go_sem]
  refine t_call_intro (rdeliver_out l i hi) ?_
  simp only [z9, z9t, z9a, go_sem]
  refine t_call_intro (rsame_den zeroM zeroM (by decide) (by decide)) ?_
  simp only [sr, go_sem]
  refine t_call_intro (all_nil_den) ?_
  simp only [n9, go_sem]
  refine t_call_intro (send3_den l b hl hb) ?_
  simp only [go_sem]
  refine t_call_intro (rsend_den l b hl hb) ?_
  simp only [go_sem]
  refine t_call_intro (rsameAll_den _ _ fT fT) ?_
  simp only [sT, go_sem]
  refine t_call_intro (drop_out l i hi) ?_
  simp only [go_sem]
  refine t_call_intro (rdrop_out l i hi) ?_
  simp only [go_sem]
  refine t_call_intro (all_nilr_den) ?_
  simp only [n9, go_sem]
  refine t_call_intro (dup_out l i hi) ?_
  simp only [go_sem]
  refine t_call_intro (rdup_out l i hi) ?_
  simp only [go_sem]
  refine t_call_intro (all_nils_den) ?_
  simp only [e9, go_sem]
  refine t_call_intro (examples_den) ?_
  simp only [go_sem]
  simp only [aresult, ares, go_sem]
set_option maxRecDepth 100000 in
set_option maxHeartbeats 4000000 in
theorem sends_in (l b : List Msg) (hl : Msgs.fit l) (hb : Msgs.fit b) (i : Nat) (hi : i < l.length) : PDen Try.prog 3 [.a (.slice 9 (l.map Msg.row)), .a (.slice 9 (b.map Msg.row)), .a (.int .i64 i)] (.a (.bool true)) := by
  have e0 : ((0 : Int) == 0) = true := by decide
  have n0 : ((0 : Int) != 0) = false := by decide
  have e17 : ((17 : Int) == 17) = true := by decide
  have er : l[i].row.length = 9 := rfl
  have et : l[i].row.take 9 = l[i].row := rfl
  have ea : (l[i].row.map AV.a).take 9 = l[i].row.map AV.a := rfl
  have sr : sameM l[i] l[i] = true := sameM_refl _
  have ok1 : l[i].items.length ≤ 9223372036854775807 := by have := hl.at_ i hi; omega
  have hfi : Msgs.fit (l.eraseIdx i) := hl.erase i
  have sa := sameAll_refl (l.eraseIdx i)
  have fT : Msgs.ok ((l ++ b).take 256) := by
    refine ⟨by simp; omega, fun m hm => ?_⟩
    have hm := List.mem_of_mem_take hm
    rcases List.mem_append.1 hm with h | h
    · have := hl.2 m h; omega
    · have := hb.2 m h; omega
  have sT := sameAll_refl ((l ++ b).take 256)
  refine den_of_body k_law40_NetworkSends ⟨rfl, Nat.le_of_ble_eq_true rfl, thaw_intro ?_⟩
  unfold c_law40_NetworkSends
  simp only [go_sem]
  refine t_call_intro (deliver_den l i hi hl) ?_
  simp only [er, go_sem]
  refine t_call_intro (rdeliver_den l i hi hl) ?_
  simp only [er, et, ea, go_sem]
  refine t_call_intro (rsame_den l[i] l[i] ok1 ok1) ?_
  simp only [sr, go_sem]
  refine t_call_intro (rsameAll_den _ _ hfi.ok hfi.ok) ?_
  simp only [sa, n0, go_sem]
  refine t_call_intro (send3_den l b hl hb) ?_
  simp only [go_sem]
  refine t_call_intro (rsend_den l b hl hb) ?_
  simp only [go_sem]
  refine t_call_intro (rsameAll_den _ _ fT fT) ?_
  simp only [sT, go_sem]
  refine t_call_intro (drop_den l i hi hl) ?_
  simp only [go_sem]
  refine t_call_intro (rdrop_den l i hi hl) ?_
  simp only [go_sem]
  refine t_call_intro (rsameAll_den _ _ hfi.ok hfi.ok) ?_
  simp only [sa, n0, go_sem]
  by_cases hA : l.length < 256
  · have fU : Msgs.ok (l ++ [l[i]]) := by
      refine ⟨by simp; omega, fun m hm => ?_⟩
      rcases List.mem_append.1 hm with h | h
      · have := hl.2 m h; omega
      · simp at h; subst h; exact ok1
    have sU := sameAll_refl (l ++ [l[i]])
    refine t_call_intro (dup_den l i hi hA hl) ?_
    simp only [go_sem]
    refine t_call_intro (rdup_den l i hi hA hl) ?_
    simp only [go_sem]
    refine t_call_intro (rsameAll_den _ _ fU fU) ?_
    simp only [sU, e0, go_sem]
    refine t_call_intro (examples_den) ?_
    simp only [go_sem]
    simp only [aresult, ares, go_sem]
  · refine t_call_intro (dup_full l i hi (by omega)) ?_
    simp only [go_sem]
    refine t_call_intro (rdup_full l i hi (by omega)) ?_
    simp only [go_sem]
    refine t_call_intro (all_nils_den) ?_
    simp only [e17, go_sem]
    refine t_call_intro (examples_den) ?_
    simp only [go_sem]
    simp only [aresult, ares, go_sem]
theorem sends_den (l b : List Msg) (hl : Msgs.fit l) (hb : Msgs.fit b) (i : Int) : PDen Try.prog 3 [.a (.slice 9 (l.map Msg.row)), .a (.slice 9 (b.map Msg.row)), .a (.int .i64 i)] (.a (.bool true)) := by
  by_cases h : i < 0 ∨ (l.length : Int) ≤ i
  · exact sends_out l b hl hb i h
  · obtain ⟨k, rfl⟩ : ∃ k : Nat, i = (k : Int) := ⟨i.toNat, by omega⟩
    exact sends_in l b hl hb k (by omega)
end Go.Proofs.Ytnhcahoeklpbfaa
