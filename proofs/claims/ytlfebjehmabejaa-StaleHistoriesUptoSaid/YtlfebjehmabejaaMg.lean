/- The package mvstore and its reference: the search, the value of a key at a position. -/
import Derived.Test.YtlfebjehmabejaaRf
set_option linter.unusedSimpArgs false
set_option linter.unusedVariables false
namespace Go.Proofs.Ytlfebjehmabejaa
open Go Ab
attribute [local irreducible] awp aops aop asoft aeff aloop acall
attribute [local go_sem] Vl.row Ver.row Row.row Store.row Rg.row Pr.row

set_option maxRecDepth 100000 in
theorem find_den (rows : List Row) (key : ByteArray) (lo : Nat) (hn : rows.length * 40 ≤ 140737488351232) (hlo : lo ≤ rows.length)
    (h1 : ∀ (i : Nat) (hi : i < rows.length), i < lo → cmpV rows[i].key key < 0) (h2 : ∀ (i : Nat) (hi : i < rows.length), lo ≤ i → ¬ cmpV rows[i].key key < 0) :
    PDen Try.prog 26 [.a (.slice 2 (rows.map Row.row)), .a (.str key)] (.tup [.a (.int .i64 lo), .a (.bool (foundV rows lo key))]) := by
  refine den_of_body k_mvstore_find ⟨rfl, Nat.le_of_ble_eq_true rfl, thaw_intro ?_⟩
  unfold c_mvstore_find
  simp only [go_sem]
  refine t_call_intro (search_den rows key lo hn hlo h1 h2) ?_
  simp only [go_sem]
  simp only [aresult, ares, go_sem]

def getE (s : Store) (key : ByteArray) (at_ : Int) : Int := if (storeV s && keyV key) = false then 1 else posE s at_
def getV (s : Store) (key : ByteArray) (at_ : Int) : Vl := if getE s key at_ = 0 then lookV (fun r => vlAt r.vs at_) s.rows key else vl0

set_option maxRecDepth 100000 in
set_option maxHeartbeats 1000000 in
theorem mget_den (s : Store) (hs : s.fit) (hb : s.rows.length * 40 ≤ 140737488351232) (key : ByteArray) (hk : key.size ≤ 9223372036854775807) (at_ : Int) :
    PDen Try.prog 22 [.agg s.row, .a (.str key), .a (.int .i64 at_)] (.tup [.agg (getV s key at_).row, .a (.int .i64 (getE s key at_))]) := by
  refine den_of_body k_mvstore_Get ⟨rfl, Nat.le_of_ble_eq_true rfl, thaw_intro ?_⟩
  unfold c_mvstore_Get
  simp only [go_sem]
  refine t_call_intro (storeV_den s hs) ?_
  simp only [go_sem]
  first | refine t_case_dec (fun h => ?_) (fun h => ?_) | refine t_case_ndec (fun h => ?_) (fun h => ?_) | refine t_case_eqI (fun h => ?_) (fun h => ?_) | refine t_case_neI (fun h => ?_) (fun h => ?_) | refine t_case_not (fun h => ?_) (fun h => ?_) | refine t_case_intro (fun h => ?_) (fun h => ?_)
  rotate_left
  · have e : getE s key at_ = 1 := by simp [getE, h]
    simp only [go_sem]
    simp only [aresult, ares, go_sem]
    simp only [getV, e]; rfl
  simp only [go_sem]
  refine t_call_intro (keyV_den key hk) ?_
  simp only [go_sem]
  first | refine t_case_dec (fun h1 => ?_) (fun h1 => ?_) | refine t_case_ndec (fun h1 => ?_) (fun h1 => ?_) | refine t_case_eqI (fun h1 => ?_) (fun h1 => ?_) | refine t_case_neI (fun h1 => ?_) (fun h1 => ?_) | refine t_case_not (fun h1 => ?_) (fun h1 => ?_) | refine t_case_intro (fun h1 => ?_) (fun h1 => ?_)
  rotate_left
  · have e : getE s key at_ = 1 := by simp [getE, h1]
    simp only [go_sem]
    simp only [aresult, ares, go_sem]
    simp only [getV, e]; rfl
  have eE : getE s key at_ = posE s at_ := by simp [getE, h, h1]
  simp only [go_sem]
  refine t_call_intro (mreadable_den s at_) ?_
  simp only [go_sem]
  rcases posE_cases s at_ with h2 | h2
  rotate_left
  · have hx : ((15 : Int) != 0) = true := rfl
    simp only [h2, hx, go_sem]
    simp only [aresult, ares, go_sem]
    simp only [getV, eE, h2]; rfl
  have hx : ((0 : Int) != 0) = false := rfl
  simp only [h2, hx, go_sem]
  obtain ⟨lo, hlo, hl1, hl2⟩ := lo_ex key s.rows (storeV_sorted s h).1
  refine t_call_intro (find_den s.rows key lo hb hlo hl1 hl2) ?_
  simp only [go_sem]
  first | refine t_case_dec (fun h3 => ?_) (fun h3 => ?_) | refine t_case_ndec (fun h3 => ?_) (fun h3 => ?_) | refine t_case_eqI (fun h3 => ?_) (fun h3 => ?_) | refine t_case_neI (fun h3 => ?_) (fun h3 => ?_) | refine t_case_not (fun h3 => ?_) (fun h3 => ?_) | refine t_case_intro (fun h3 => ?_) (fun h3 => ?_)
  · obtain ⟨hll, hrow⟩ := found_yes s.rows key lo hl1 h3
    have h5 : (lo : Int) < (s.rows.length : Int) := by omega
    have e := getD_map Row.row s.rows lo hll
    have hfk := hs.2 _ (List.getElem_mem hll)
    simp only [h5, e, go_sem]
    refine t_call_intro (valueAt_den s.rows[lo] hfk.2.1 at_) ?_
    simp only [go_sem]
    simp only [aresult, ares, go_sem]
    simp only [getV, eE, h2, if_true, lookV, hrow]
  · have hrow := found_no s.rows key lo (storeV_sorted s h).1 hl1 hl2 h3
    simp only [go_sem]
    simp only [aresult, ares, go_sem]
    simp only [getV, eE, h2, if_true, lookV, hrow]; rfl

/-! Reads -/
end Go.Proofs.Ytlfebjehmabejaa
