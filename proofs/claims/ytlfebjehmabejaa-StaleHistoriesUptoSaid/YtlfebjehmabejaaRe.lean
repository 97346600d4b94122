/- What a store shows: the pairs at a position, the value of a key; parts of lists of pairs. -/
import Derived.Test.YtlfebjehmabejaaRd
set_option linter.unusedSimpArgs false
set_option linter.unusedVariables false
namespace Go.Proofs.Ytlfebjehmabejaa
open Go Ab
attribute [local irreducible] awp aops aop asoft aeff aloop acall
attribute [local go_sem] Vl.row Ver.row Row.row Store.row Rg.row

structure Pr where
  key : ByteArray
  v : Vl
def Pr.row (p : Pr) : List Atom := [.str p.key, .int .i64 p.v.kind, .int .i64 p.v.n, .str p.v.s]
attribute [local go_sem] Pr.row
def prOf (f : Row → Vl) (r : Row) : Option Pr := if (f r).kind = 0 then none else some ⟨r.key, f r⟩
def pairsTo (f : Row → Vl) (rows : List Row) (k : Nat) : List Pr := (rows.take k).filterMap (prOf f)
def pairRows (f : Row → Vl) (rows : List Row) (k : Nat) : List (List Atom) := (pairsTo f rows k).map Pr.row
theorem pairRows_zero (f : Row → Vl) (rows : List Row) : pairRows f rows 0 = [] := by simp [pairRows, pairsTo]
theorem pairRows_len (f : Row → Vl) (rows : List Row) (k : Nat) : (pairRows f rows k).length ≤ k := by
  have h1 := List.length_filterMap_le (prOf f) (rows.take k)
  have h2 := List.length_take_le k rows
  simp only [pairRows, pairsTo, List.length_map]; omega
theorem pairRows_yes (f : Row → Vl) (rows : List Row) (k : Nat) (h : k < rows.length) (h2 : (f rows[k]).kind ≠ 0) :
    pairRows f rows (k + 1) = pairRows f rows k ++ [[.str rows[k].key, .int .i64 (f rows[k]).kind, .int .i64 (f rows[k]).n, .str (f rows[k]).s]] := by
  have e : prOf f rows[k] = some ⟨rows[k].key, f rows[k]⟩ := by simp [prOf, h2]
  unfold pairRows pairsTo
  rw [List.take_succ_eq_append_getElem h, List.filterMap_append, List.map_append]
  simp [e, Pr.row]
theorem pairRows_no (f : Row → Vl) (rows : List Row) (k : Nat) (h : k < rows.length) (h2 : (f rows[k]).kind = 0) :
    pairRows f rows (k + 1) = pairRows f rows k := by
  have e : prOf f rows[k] = none := by simp [prOf, h2]
  unfold pairRows pairsTo
  rw [List.take_succ_eq_append_getElem h, List.filterMap_append, List.map_append]
  simp [e]
def posE (s : Store) (at_ : Int) : Int := if at_ < s.fl ∨ s.la < at_ then 15 else 0

set_option maxRecDepth 100000 in
theorem mreadable_den (s : Store) (at_ : Int) : PDen Try.prog 45 [.agg s.row, .a (.int .i64 at_)] (.a (.int .i64 (posE s at_))) := by
  refine den_of_body k_mvstore_readable ⟨rfl, Nat.le_of_ble_eq_true rfl, thaw_intro ?_⟩
  unfold c_mvstore_readable
  simp only [go_sem]
  first | refine t_case_dec (fun h => ?_) (fun h => ?_) | refine t_case_ndec (fun h => ?_) (fun h => ?_) | refine t_case_eqI (fun h => ?_) (fun h => ?_) | refine t_case_neI (fun h => ?_) (fun h => ?_) | refine t_case_not (fun h => ?_) (fun h => ?_) | refine t_case_intro (fun h => ?_) (fun h => ?_)
  · simp only [go_sem]
    simp only [aresult, ares, go_sem]
    simp [posE, h]
  simp only [go_sem]
  first | refine t_case_dec (fun h2 => ?_) (fun h2 => ?_) | refine t_case_ndec (fun h2 => ?_) (fun h2 => ?_) | refine t_case_eqI (fun h2 => ?_) (fun h2 => ?_) | refine t_case_neI (fun h2 => ?_) (fun h2 => ?_) | refine t_case_not (fun h2 => ?_) (fun h2 => ?_) | refine t_case_intro (fun h2 => ?_) (fun h2 => ?_)
  · simp only [go_sem]
    simp only [aresult, ares, go_sem]
    simp [posE, h2]
  · simp only [go_sem]
    simp only [aresult, ares, go_sem]
    simp [posE, h, h2]

def atA (f : Row → Vl) (s : Store) (at_ : Int) : AV :=
  if storeV s = false then .tup [.a .nils, .a (.int .i64 1)]
  else if posE s at_ ≠ 0 then .tup [.a .nils, .a (.int .i64 15)]
  else .tup [.a (.slice 4 (pairRows f s.rows s.rows.length)), .a (.int .i64 0)]
theorem posE_cases (s : Store) (at_ : Int) : posE s at_ = 0 ∨ posE s at_ = 15 := by
  unfold posE; split
  · exact .inr rfl
  · exact .inl rfl

set_option maxRecDepth 100000 in
set_option maxHeartbeats 1000000 in
theorem at_den (s : Store) (hs : s.fit) (hb : s.rows.length * 40 ≤ 140737488351232) (at_ : Int) :
    PDen Try.prog 16 [.agg s.row, .a (.int .i64 at_)] (atA (fun r => vlAt r.vs at_) s at_) := by
  refine den_of_body k_mvstore_At ⟨rfl, Nat.le_of_ble_eq_true rfl, thaw_intro ?_⟩
  unfold c_mvstore_At
  simp only [go_sem]
  refine t_call_intro (storeV_den s hs) ?_
  simp only [go_sem]
  first | refine t_case_dec (fun h => ?_) (fun h => ?_) | refine t_case_ndec (fun h => ?_) (fun h => ?_) | refine t_case_eqI (fun h => ?_) (fun h => ?_) | refine t_case_neI (fun h => ?_) (fun h => ?_) | refine t_case_not (fun h => ?_) (fun h => ?_) | refine t_case_intro (fun h => ?_) (fun h => ?_)
  rotate_left
  · simp only [go_sem]
    simp only [aresult, ares, go_sem]
    simp [atA, h]
  simp only [go_sem]
  refine t_call_intro (mreadable_den s at_) ?_
  simp only [go_sem]
  rcases posE_cases s at_ with h1 | h1
  rotate_left
  · have hx : ((15 : Int) != 0) = true := rfl
    simp only [h1, hx, go_sem]
    simp only [aresult, ares, go_sem]
    simp [atA, h, h1]
  have hx : ((0 : Int) != 0) = false := rfl
  simp only [h1, hx, go_sem]
  refine t_loopO_intro [.slot 7 58 4] (fun k : Nat => k ≤ s.rows.length) (fun k => s.rows.length - k) 0 [7, 9, 10, 23, 24, 25, 26, 27, 28, 29, 30, 31, 32, 33, 34, 35, 36, 37, 38, 39, 40] (fun k => [(7, .own 0), (23, .a (.int .i64 k))]) (fun k => [[.a (.int .i64 s.fl), .a (.int .i64 s.la), .a (.slice 2 (s.rows.map Row.row))]]) (fun k => [⟨58, 4, pairRows (fun r => vlAt r.vs at_) s.rows k, false⟩]) (by omega) (by simp) (by first | (simp; done) | simp [pairRows_zero]) (by first | (simp; done) | simp [pairRows_zero]) (by first | (simp; done) | simp [pairRows_zero]) (fun k => by first | (simp; done) | simp [pairRows_zero]) (fun k => by first | (simp; done) | simp [pairRows_zero]) (fun k => by first | (simp; done) | simp [pairRows_zero]) ?_
  intro k hk st_ hst
  simp only [go_sem] at hst
  subst hst
  by_cases hlt : k < s.rows.length
  · have h3 : (k : Int) < (s.rows.length : Int) := by omega
    have ew := wrap1 k s.rows.length hlt (by omega)
    have e := getD_map Row.row s.rows k hlt
    have hfk := hs.2 _ (List.getElem_mem hlt)
    have hlen := pairRows_len (fun r => vlAt r.vs at_) s.rows k
    simp only [h3, e, go_sem]
    refine t_call_intro (valueAt_den s.rows[k] hfk.2.1 at_) ?_
    simp only [go_sem]
    first | refine t_case_dec (fun h4 => ?_) (fun h4 => ?_) | refine t_case_ndec (fun h4 => ?_) (fun h4 => ?_) | refine t_case_eqI (fun h4 => ?_) (fun h4 => ?_) | refine t_case_neI (fun h4 => ?_) (fun h4 => ?_) | refine t_case_not (fun h4 => ?_) (fun h4 => ?_) | refine t_case_intro (fun h4 => ?_) (fun h4 => ?_)
    · simp only [ew, go_sem]
      refine t_roundO (k + 1) (by omega) (by omega) (by first | (simp; done) | simp [pairRows_no (fun r => vlAt r.vs at_) _ _ hlt h4]) (by first | (simp; done) | simp [pairRows_no (fun r => vlAt r.vs at_) _ _ hlt h4]) (by first | (simp; done) | simp [pairRows_no (fun r => vlAt r.vs at_) _ _ hlt h4]) (by first | (simp; done) | simp [pairRows_no (fun r => vlAt r.vs at_) _ _ hlt h4]) (by first | (simp; done) | simp [pairRows_no (fun r => vlAt r.vs at_) _ _ hlt h4])
    · simp only [go_sem]
      refine t_gate_intro (by omega) ?_
      simp only [ew, go_sem]
      refine t_roundO (k + 1) (by omega) (by omega) (by first | (simp; done) | simp [pairRows_yes (fun r => vlAt r.vs at_) _ _ hlt h4]) (by first | (simp; done) | simp [pairRows_yes (fun r => vlAt r.vs at_) _ _ hlt h4]) (by first | (simp; done) | simp [pairRows_yes (fun r => vlAt r.vs at_) _ _ hlt h4]) (by first | (simp; done) | simp [pairRows_yes (fun r => vlAt r.vs at_) _ _ hlt h4]) (by first | (simp; done) | simp [pairRows_yes (fun r => vlAt r.vs at_) _ _ hlt h4])
  · have h3 : ¬ (k : Int) < (s.rows.length : Int) := by omega
    have hke : k = s.rows.length := by omega
    simp only [h3, go_sem]
    simp only [aresult, ares, go_sem]
    simp [atA, h, h1, hke]

/-! Lists of pairs -/
def sliceRows (r : Rg) (l : List Pr) (k : Nat) : List (List Atom) := ((l.take k).filter fun p => containsV r p.key).map Pr.row
theorem sliceRows_zero (r : Rg) (l : List Pr) : sliceRows r l 0 = [] := by simp [sliceRows]
theorem sliceRows_len (r : Rg) (l : List Pr) (k : Nat) : (sliceRows r l k).length ≤ k := by
  have h1 := List.length_filter_le (fun p : Pr => containsV r p.key) (l.take k)
  have h2 := List.length_take_le k l
  simp only [sliceRows, List.length_map]; omega
theorem sliceRows_yes (r : Rg) (l : List Pr) (k : Nat) (h : k < l.length) (h2 : containsV r l[k].key = true) :
    sliceRows r l (k + 1) = sliceRows r l k ++ [[.str l[k].key, .int .i64 l[k].v.kind, .int .i64 l[k].v.n, .str l[k].v.s]] := by
  unfold sliceRows
  rw [List.take_succ_eq_append_getElem h, List.filter_append, List.map_append]
  simp [h2, Pr.row]
theorem sliceRows_no (r : Rg) (l : List Pr) (k : Nat) (h : k < l.length) (h2 : containsV r l[k].key = false) :
    sliceRows r l (k + 1) = sliceRows r l k := by
  unfold sliceRows
  rw [List.take_succ_eq_append_getElem h, List.filter_append, List.map_append]
  simp [h2]

def getP (l : List Pr) (key : ByteArray) : Vl := match l.find? (fun p => p.key.toList == key.toList) with | none => vl0 | some p => p.v
theorem getP_hit (l : List Pr) (key : ByteArray) (k : Nat) (h : k < l.length) (h2 : (l[k].key.toList == key.toList) = true) : getP (l.drop k) key = l[k].v := by
  rw [List.drop_eq_getElem_cons h]; simp only [getP, List.find?_cons, h2]
theorem getP_miss (l : List Pr) (key : ByteArray) (k : Nat) (h : k < l.length) (h2 : (l[k].key.toList == key.toList) = false) : getP (l.drop k) key = getP (l.drop (k + 1)) key := by
  rw [List.drop_eq_getElem_cons h]; simp only [getP, List.find?_cons, h2]

set_option maxRecDepth 100000 in
set_option maxHeartbeats 1000000 in
theorem same_den (l : List Pr) (hl : l.length ≤ 9223372036854775807) :
    PDen Try.prog 17 [.a (.slice 4 (l.map Pr.row)), .a (.slice 4 (l.map Pr.row))] (.a (.bool true)) := by
  refine den_of_body k_ref06_Same ⟨rfl, Nat.le_of_ble_eq_true rfl, thaw_intro ?_⟩
  unfold c_ref06_Same
  simp only [bne_self_eq_false, go_sem]
  refine t_loop_intro (fun k : Nat => k ≤ l.length) (fun k => l.length - k) 0 [4, 5, 11, 12, 13, 14, 15, 16, 17, 18, 19, 20, 21, 22, 23, 24, 25] (fun k => [(5, .a (.int .i64 k))]) (by omega) (by simp) (fun k => by simp) rfl ?_
  intro k hk fr_ hfr
  simp only [go_sem] at hfr
  subst hfr
  by_cases hlt : k < l.length
  · have h3 : (k : Int) < (l.length : Int) := by omega
    have ew := wrap1 k l.length hlt hl
    have e := getD_map Pr.row l k hlt
    simp only [h3, e, beq_self_eq_true, Bool.and_self, ew, go_sem]
    refine t_round (k + 1) (by omega) (by omega) (by simp) rfl rfl (by simp) rfl
  · have h3 : ¬ (k : Int) < (l.length : Int) := by omega
    simp only [h3, go_sem]
    simp only [aresult, ares, go_sem]

set_option maxRecDepth 100000 in
theorem same_nil_den : PDen Try.prog 17 [.a .nils, .a .nils] (.a (.bool true)) := by
  refine den_of_body k_ref06_Same ⟨rfl, Nat.le_of_ble_eq_true rfl, thaw_intro ?_⟩
  unfold c_ref06_Same
  simp only [bne_self_eq_false, go_sem]
  refine t_loop_intro (fun k : Nat => k ≤ 0) (fun k => 0 - k) 0 [4, 5, 11, 12, 13, 14, 15, 16, 17, 18, 19, 20, 21, 22, 23, 24, 25] (fun k => [(5, .a (.int .i64 k))]) (by omega) (by simp) (fun k => by simp) rfl ?_
  intro k hk fr_ hfr
  simp only [go_sem] at hfr
  subst hfr
  by_cases hlt : k < 0
  · omega
  · have hk0 : k = 0 := by omega
    subst hk0
    have h3 : ¬ ((0 : Nat) : Int) < 0 := by omega
    simp only [h3, go_sem]
    simp only [aresult, ares, go_sem]
end Go.Proofs.Ytlfebjehmabejaa
