/- Chapter 22: the laws MvstoreValid and MvstoreReads, walked. -/
import Derived.Test.YtobgbmklepcblaaMwE
namespace Go.Proofs.Ytobgbmklepcblaa
open Go Ab
attribute [local irreducible] awp aops aop asoft aeff aloop acall acallI acallT
attribute [local go_sem] Vl.row Ver.row Row.row Store.row Rg.row Pr.row

set_option maxRecDepth 100000 in
theorem mvValid_den (s : Store) (hs : s.fit) (hm : s.small) : PDen Try.prog 3 [.agg s.row] (.a (.bool true)) := by
  refine den_of_body k_law22_MvstoreValid ⟨rfl, Nat.le_of_ble_eq_true rfl, thaw_intro ?_⟩
  unfold c_law22_MvstoreValid
  simp only [go_sem]
  refine t_call_intro (few_den s hm 12) ?_
  simp only [go_sem]
  first | refine t_case_dec (fun h0 => ?_) (fun h0 => ?_) | refine t_case_ndec (fun h0 => ?_) (fun h0 => ?_) | refine t_case_eqI (fun h0 => ?_) (fun h0 => ?_) | refine t_case_neI (fun h0 => ?_) (fun h0 => ?_) | refine t_case_not (fun h0 => ?_) (fun h0 => ?_) | refine t_case_intro (fun h0 => ?_) (fun h0 => ?_)
  rotate_left
  · simp only [go_sem]
    refine t_call_intro (lives_den) ?_
    simp only [go_sem]
    simp only [aresult, ares, go_sem]
  simp only [go_sem]
  refine t_call_intro (storeV_den s hs) ?_
  simp only [go_sem]
  refine t_call_intro (rstoreV_den s hs) ?_
  have e1 : (storeV s == storeV s) = true := by simp
  simp only [e1, go_sem]
  refine t_call_intro (versions_den s hm.1) ?_
  simp only [e1, go_sem]
  refine t_call_intro (rversions_den s hm.1) ?_
  have e2 : (versW s.rows == versW s.rows) = true := by simp
  simp only [e1, e2, go_sem]
  refine t_call_intro (lives_den) ?_
  simp only [go_sem]
  simp only [aresult, ares, go_sem]
def atL (f : Row → Vl) (s : Store) (at_ : Int) : Atom := if storeV s = false then .nils else if posE s at_ ≠ 0 then .nils else .slice 4 (pairRows f s.rows s.rows.length)
def atE (s : Store) (at_ : Int) : Int := if storeV s = false then 1 else if posE s at_ ≠ 0 then 15 else 0
theorem atA_eq (f : Row → Vl) (s : Store) (at_ : Int) : atA f s at_ = .tup [.a (atL f s at_), .a (.int .i64 (atE s at_))] := by
  unfold atA atL atE
  by_cases h : storeV s = false
  · simp [h]
  · by_cases h2 : posE s at_ = 0
    · simp [h, h2]
    · simp [h, h2]
theorem atL_same (s : Store) (at_ : Int) : atL (fun r => lastV r.vs at_ r.vs.length) s at_ = atL (fun r => vlAt r.vs at_) s at_ := by
  unfold atL
  by_cases h : storeV s = false
  · rw [if_pos h, if_pos h]
  · rw [if_neg h, if_neg h]
    unfold pairRows
    rw [pairs_same s (by simpa using h) at_]
theorem pairsTo_len (f : Row → Vl) (rows : List Row) (k : Nat) : (pairsTo f rows k).length ≤ k := by
  have := pairRows_len f rows k
  unfold pairRows at this
  rwa [List.length_map] at this
theorem atSame_den (s : Store) (hm : s.small) (f : Row → Vl) (at_ : Int) : PDen Try.prog 29 [.a (atL f s at_), .a (atL f s at_)] (.a (.bool true)) := by
  unfold atL
  by_cases h : storeV s = false
  · rw [if_pos h]; exact same_nil_den
  · rw [if_neg h]
    by_cases h2 : posE s at_ = 0
    · rw [if_neg (by simpa using h2)]
      have h3 := pairsTo_len f s.rows s.rows.length
      have h4 := hm.1
      exact same_den (pairsTo f s.rows s.rows.length) (by omega)
    · rw [if_pos h2]; exact same_nil_den
set_option maxRecDepth 100000 in
set_option maxHeartbeats 1000000 in
theorem mvReads_den (s : Store) (hs : s.fit) (hm : s.small) (key : ByteArray) (hk : key.size ≤ 9223372036854775807) (at_ : Int) : PDen Try.prog 7 [.agg s.row, .a (.str key), .a (.int .i64 at_)] (.a (.bool true)) := by
  have hat := at_den s hs hm.1 at_
  have hrat := rat_den s hs hm.1 at_
  rw [atA_eq] at hat hrat
  rw [atL_same] at hrat
  have e1 : ((getV s key at_).kind == (getV s key at_).kind) = true := by simp
  have e2 : ((getV s key at_).n == (getV s key at_).n) = true := by simp
  have e3 : ((getV s key at_).s.toList == (getV s key at_).s.toList) = true := by simp
  have e4 : (getE s key at_ == getE s key at_) = true := by simp
  have e5 : (atE s at_ == atE s at_) = true := by simp
  refine den_of_body k_law22_MvstoreReads ⟨rfl, Nat.le_of_ble_eq_true rfl, thaw_intro ?_⟩
  unfold c_law22_MvstoreReads
  simp only [go_sem]
  refine t_call_intro (few_den s hm 12) ?_
  simp only [go_sem]
  first | refine t_case_dec (fun h0 => ?_) (fun h0 => ?_) | refine t_case_ndec (fun h0 => ?_) (fun h0 => ?_) | refine t_case_eqI (fun h0 => ?_) (fun h0 => ?_) | refine t_case_neI (fun h0 => ?_) (fun h0 => ?_) | refine t_case_not (fun h0 => ?_) (fun h0 => ?_) | refine t_case_intro (fun h0 => ?_) (fun h0 => ?_)
  rotate_left
  · simp only [go_sem]
    refine t_call_intro (lives_den) ?_
    simp only [go_sem]
    simp only [aresult, ares, go_sem]
  simp only [h0, go_sem]
  first | refine t_case_dec (fun h1 => ?_) (fun h1 => ?_) | refine t_case_ndec (fun h1 => ?_) (fun h1 => ?_) | refine t_case_eqI (fun h1 => ?_) (fun h1 => ?_) | refine t_case_neI (fun h1 => ?_) (fun h1 => ?_) | refine t_case_not (fun h1 => ?_) (fun h1 => ?_) | refine t_case_intro (fun h1 => ?_) (fun h1 => ?_)
  · simp only [go_sem]
    refine t_call_intro (lives_den) ?_
    simp only [go_sem]
    simp only [aresult, ares, go_sem]
  simp only [h1, go_sem]
  refine t_call_intro (mget_den s hs hm.1 key hk at_) ?_
  simp only [go_sem]
  refine t_call_intro (rmget_den s hs hm.1 key hk at_) ?_
  simp only [go_sem]
  refine t_call_intro (hat) ?_
  simp only [go_sem]
  refine t_call_intro (hrat) ?_
  simp only [e1, e2, e3, e4, Bool.true_and, go_sem]
  refine t_call_intro (atSame_den s hm _ at_) ?_
  simp only [e5, go_sem]
  refine t_call_intro (lives_den) ?_
  simp only [go_sem]
  simp only [aresult, ares, go_sem]
end Go.Proofs.Ytobgbmklepcblaa
