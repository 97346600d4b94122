/- Chapter 52: what is read, and the pairs that are shown. -/
import Derived.Test.YtpicnfikpeekeaaRf
import Derived.Test.YtpicnfikpeekeaaRc
namespace Go.Proofs.Ytpicnfikpeekeaa
open Go Ab
attribute [local irreducible] awp aops aop asoft aeff aloop acall
attribute [local go_sem] Vl.row Ver.row Row.row Store.row Rg.row Pr.row

set_option maxRecDepth 100000 in
theorem find_den (rows : List Row) (key : ByteArray) (lo : Nat) (hn : rows.length * 40 ≤ 140737488351232) (hlo : lo ≤ rows.length)
    (h1 : ∀ (i : Nat) (hi : i < rows.length), i < lo → cmpV rows[i].key key < 0) (h2 : ∀ (i : Nat) (hi : i < rows.length), lo ≤ i → ¬ cmpV rows[i].key key < 0) :
    PDen Try.prog 44 [.a (.slice 2 (rows.map Row.row)), .a (.str key)] (.tup [.a (.int .i64 lo), .a (.bool (foundV rows lo key))]) := by
  refine den_of_body k_mvstore_find ⟨rfl, Nat.le_of_ble_eq_true rfl, thaw_intro ?_⟩
  unfold c_mvstore_find
  simp only [go_sem]
  refine t_call_intro (search_den rows key lo hn hlo h1 h2) ?_
  simp only [go_sem]
  simp only [aresult, ares, go_sem]

def getE (s : Store) (key : ByteArray) (at_ : Int) : Int := if (storeV s && keyV key) = false then 1 else posE s at_
def getV (s : Store) (key : ByteArray) (at_ : Int) : Vl := if getE s key at_ = 0 then lookV (fun r => vlAt r.vs at_) s.rows key else vl0

set_option maxRecDepth 100000 in
set_option maxHeartbeats 1000000 in
theorem mget_den (s : Store) (hs : s.fit) (hb : s.rows.length * 40 ≤ 140737488351232) (key : ByteArray) (hk : key.size ≤ 9223372036854775807) (at_ : Int) :
    PDen Try.prog 31 [.agg s.row, .a (.str key), .a (.int .i64 at_)] (.tup [.agg (getV s key at_).row, .a (.int .i64 (getE s key at_))]) := by
  refine den_of_body k_mvstore_Get ⟨rfl, Nat.le_of_ble_eq_true rfl, thaw_intro ?_⟩
  unfold c_mvstore_Get
  simp only [go_sem]
  refine t_call_intro (storeV_den s hs) ?_
  simp only [go_sem]
  first | refine t_case_dec (fun h => ?_) (fun h => ?_) | refine t_case_ndec (fun h => ?_) (fun h => ?_) | refine t_case_eqI (fun h => ?_) (fun h => ?_) | refine t_case_neI (fun h => ?_) (fun h => ?_) | refine t_case_not (fun h => ?_) (fun h => ?_) | refine t_case_intro (fun h => ?_) (fun h => ?_)
  rotate_left
  · have e : getE s key at_ = 1 := by simp [getE, h]
    simp only [go_sem]
    simp only [aresult, ares, go_sem]
    simp only [getV, e]; rfl
  simp only [go_sem]
  refine t_call_intro (keyV_den key hk) ?_
  simp only [go_sem]
  first | refine t_case_dec (fun h1 => ?_) (fun h1 => ?_) | refine t_case_ndec (fun h1 => ?_) (fun h1 => ?_) | refine t_case_eqI (fun h1 => ?_) (fun h1 => ?_) | refine t_case_neI (fun h1 => ?_) (fun h1 => ?_) | refine t_case_not (fun h1 => ?_) (fun h1 => ?_) | refine t_case_intro (fun h1 => ?_) (fun h1 => ?_)
  rotate_left
  · have e : getE s key at_ = 1 := by simp [getE, h1]
    simp only [go_sem]
    simp only [aresult, ares, go_sem]
    simp only [getV, e]; rfl
  have eE : getE s key at_ = posE s at_ := by simp [getE, h, h1]
  simp only [go_sem]
  refine t_call_intro (mreadable_den s at_) ?_
  simp only [go_sem]
  rcases posE_cases s at_ with h2 | h2
  rotate_left
  · have hx : ((15 : Int) != 0) = true := rfl
    simp only [h2, hx, go_sem]
    simp only [aresult, ares, go_sem]
    simp only [getV, eE, h2]; rfl
  have hx : ((0 : Int) != 0) = false := rfl
  simp only [h2, hx, go_sem]
  obtain ⟨lo, hlo, hl1, hl2⟩ := lo_ex key s.rows (storeV_sorted s h).1
  refine t_call_intro (find_den s.rows key lo hb hlo hl1 hl2) ?_
  simp only [go_sem]
  first | refine t_case_dec (fun h3 => ?_) (fun h3 => ?_) | refine t_case_ndec (fun h3 => ?_) (fun h3 => ?_) | refine t_case_eqI (fun h3 => ?_) (fun h3 => ?_) | refine t_case_neI (fun h3 => ?_) (fun h3 => ?_) | refine t_case_not (fun h3 => ?_) (fun h3 => ?_) | refine t_case_intro (fun h3 => ?_) (fun h3 => ?_)
  · obtain ⟨hll, hrow⟩ := found_yes s.rows key lo hl1 h3
    have h5 : (lo : Int) < (s.rows.length : Int) := by omega
    have e := getD_map Row.row s.rows lo hll
    have hfk := hs.2 _ (List.getElem_mem hll)
    simp only [h5, e, go_sem]
    refine t_call_intro (valueAt_den s.rows[lo] hfk.2.1 at_) ?_
    simp only [go_sem]
    simp only [aresult, ares, go_sem]
    simp only [getV, eE, h2, if_true, lookV, hrow]
  · have hrow := found_no s.rows key lo (storeV_sorted s h).1 hl1 hl2 h3
    simp only [go_sem]
    simp only [aresult, ares, go_sem]
    simp only [getV, eE, h2, if_true, lookV, hrow]; rfl

set_option maxRecDepth 100000 in
set_option maxHeartbeats 1000000 in
theorem rmget_den (s : Store) (hs : s.fit) (hb : s.rows.length * 40 ≤ 140737488351232) (key : ByteArray) (hk : key.size ≤ 9223372036854775807) (at_ : Int) :
    PDen Try.prog 32 [.agg s.row, .a (.str key), .a (.int .i64 at_)] (.tup [.agg (getV s key at_).row, .a (.int .i64 (getE s key at_))]) := by
  refine den_of_body k_ref22_Get ⟨rfl, Nat.le_of_ble_eq_true rfl, thaw_intro ?_⟩
  unfold c_ref22_Get
  simp only [go_sem]
  refine t_call_intro (rstoreV_den s hs) ?_
  simp only [go_sem]
  first | refine t_case_dec (fun h => ?_) (fun h => ?_) | refine t_case_ndec (fun h => ?_) (fun h => ?_) | refine t_case_eqI (fun h => ?_) (fun h => ?_) | refine t_case_neI (fun h => ?_) (fun h => ?_) | refine t_case_not (fun h => ?_) (fun h => ?_) | refine t_case_intro (fun h => ?_) (fun h => ?_)
  rotate_left
  · have e : getE s key at_ = 1 := by simp [getE, h]
    simp only [go_sem]
    simp only [aresult, ares, go_sem]
    simp only [getV, e]; rfl
  simp only [go_sem]
  refine t_call_intro (rkeyV_den key hk) ?_
  simp only [go_sem]
  first | refine t_case_dec (fun h1 => ?_) (fun h1 => ?_) | refine t_case_ndec (fun h1 => ?_) (fun h1 => ?_) | refine t_case_eqI (fun h1 => ?_) (fun h1 => ?_) | refine t_case_neI (fun h1 => ?_) (fun h1 => ?_) | refine t_case_not (fun h1 => ?_) (fun h1 => ?_) | refine t_case_intro (fun h1 => ?_) (fun h1 => ?_)
  rotate_left
  · have e : getE s key at_ = 1 := by simp [getE, h1]
    simp only [go_sem]
    simp only [aresult, ares, go_sem]
    simp only [getV, e]; rfl
  have eE : getE s key at_ = posE s at_ := by simp [getE, h, h1]
  simp only [go_sem]
  refine t_call_intro (rat_den s hs hb at_) ?_
  unfold atA
  rw [if_neg (by simp [h])]
  rcases posE_cases s at_ with h2 | h2
  rotate_left
  · have hx : ((15 : Int) != 0) = true := rfl
    rw [if_pos (by simp [h2])]
    simp only [hx, go_sem]
    simp only [aresult, ares, go_sem]
    simp only [getV, eE, h2]; rfl
  have hx : ((0 : Int) != 0) = false := rfl
  rw [if_neg (by simp [h2])]
  simp only [hx, go_sem]
  have hlen := pairRows_len (fun r => lastV r.vs at_ r.vs.length) s.rows s.rows.length
  unfold pairRows at hlen
  rw [List.length_map] at hlen
  refine t_call_intro (rget_den (pairsTo (fun r => lastV r.vs at_ r.vs.length) s.rows s.rows.length) (by omega) key) ?_
  rw [pairs_same s h at_, pairs_get s h at_ key]
  simp only [go_sem]
  simp only [aresult, ares, go_sem]
  simp only [getV, eE, h2, if_true]

/-! Reads -/
theorem bestK_read (l : List Store) (nw bd : Int) : ∀ (k j : Nat), bestK l nw bd k = (j : Int) → ∃ hj : j < l.length, readB l[j] (least2 l[j].la nw) = true
  | 0, j, h => by simp only [bestK] at h; omega
  | k + 1, j, h => by
    by_cases hk : k < l.length
    · by_cases hr : (decide (l[k].la < nw - bd) || !readB l[k] (least2 l[k].la nw)) = true
      · rw [bestK_a l nw bd k hk hr] at h
        exact bestK_read l nw bd k j h
      · have hrd : readB l[k] (least2 l[k].la nw) = true := by simp at hr; exact hr.2
        by_cases hn : bestK l nw bd k < 0
        · rw [bestK_b l nw bd k hk hr hn] at h
          have : j = k := by omega
          subst this
          exact ⟨hk, hrd⟩
        · rcases bestK_cases l nw bd k with h0 | ⟨i, hi, ei⟩
          · omega
          · rw [bestK_c l nw bd k i hk hr (by omega) ei] at h
            split at h
            · have : j = k := by omega
              subst this
              exact ⟨hk, hrd⟩
            · rw [← ei] at h
              exact bestK_read l nw bd k j h
    · have : bestK l nw bd (k + 1) = bestK l nw bd k := by
        simp only [bestK, List.getElem?_eq_none (Nat.le_of_not_lt hk)]
      rw [this] at h
      exact bestK_read l nw bd k j h
theorem choose_split (l : List Store) (nw bd : Int) : (∃ c : Int, c ≠ 0 ∧ chooseA l nw bd = .tup [.a (.int .i64 0), .a (.int .i64 0), .a (.int .i64 c)]) ∨
    ∃ (j : Nat) (hj : j < l.length), 0 ≤ nw ∧ nw ≤ 1099511627776 ∧ readB l[j] (least2 l[j].la nw) = true ∧ chooseA l nw bd = .tup [.a (.int .i64 j), .a (.int .i64 (least2 l[j].la nw)), .a (.int .i64 0)] := by
  unfold chooseA
  split
  · exact .inl ⟨1, by omega, rfl⟩
  · rename_i hn
    split
    · exact .inl ⟨15, by omega, rfl⟩
    · rename_i s hs
      split
      · exact .inl ⟨15, by omega, rfl⟩
      · rename_i hneg
        rcases bestK_cases l nw bd l.length with h | ⟨j, hj, ej⟩
        · rw [h] at hneg; simp at hneg
        · rw [ej] at hs ⊢
          simp only [Int.toNat_natCast] at hs
          obtain ⟨hj', hr⟩ := bestK_read l nw bd l.length j ej
          have hss : s = l[j] := by rw [List.getElem?_eq_getElem hj'] at hs; exact (Option.some.inj hs).symm
          subst hss
          exact .inr ⟨j, hj', by omega, by omega, hr, rfl⟩

set_option maxRecDepth 100000 in
set_option maxHeartbeats 1000000 in
theorem read_err (l : List Store) (nw bd c : Int) (key : ByteArray) (hl : l.length * 40 ≤ 140737488351232) (hf : ∀ s ∈ l, s.fit) (hbd : bd ≤ 9223372036854775807) (hc : c ≠ 0)
    (he : chooseA l nw bd = .tup [.a (.int .i64 0), .a (.int .i64 0), .a (.int .i64 c)]) :
    PDen Try.prog 14 [.a (.slice 3 (l.map Store.row)), .a (.str key), .a (.int .i64 nw), .a (.int .i64 bd)] (.tup [.agg vl0.row, .a (.int .i64 0), .a (.int .i64 c)]) := by
  refine den_of_body k_stale_Read ⟨rfl, Nat.le_of_ble_eq_true rfl, thaw_intro ?_⟩
  unfold c_stale_Read
  simp only [go_sem]
  refine t_call_intro (he ▸ choose_den l nw bd (by omega) hf hbd) ?_
  have hx : (c != 0) = true := by simpa using hc
  simp only [hx, go_sem]
  simp only [aresult, ares, go_sem]
  rfl
set_option maxRecDepth 100000 in
set_option maxHeartbeats 1000000 in
theorem rread_err (l : List Store) (nw bd c : Int) (key : ByteArray) (hl : l.length * 40 ≤ 140737488351232) (hf : ∀ s ∈ l, s.fit) (hbd : bd ≤ 9223372036854775807) (hc : c ≠ 0)
    (he : chooseA l nw bd = .tup [.a (.int .i64 0), .a (.int .i64 0), .a (.int .i64 c)]) :
    PDen Try.prog 15 [.a (.slice 3 (l.map Store.row)), .a (.str key), .a (.int .i64 nw), .a (.int .i64 bd)] (.tup [.agg vl0.row, .a (.int .i64 0), .a (.int .i64 c)]) := by
  refine den_of_body k_ref52_Read ⟨rfl, Nat.le_of_ble_eq_true rfl, thaw_intro ?_⟩
  unfold c_ref52_Read
  simp only [go_sem]
  refine t_call_intro (he ▸ rchoose_den l nw bd (by omega) hf hbd) ?_
  have hx : (c != 0) = true := by simpa using hc
  simp only [hx, go_sem]
  simp only [aresult, ares, go_sem]
  rfl
def readAt (e b : Int) : Int := if e = 0 then b else 0

set_option maxRecDepth 100000 in
set_option maxHeartbeats 1000000 in
theorem read_ok (l : List Store) (nw bd b : Int) (j : Nat) (hj : j < l.length) (key : ByteArray) (hk : key.size ≤ 9223372036854775807) (hl : l.length * 40 ≤ 140737488351232) (hf : ∀ s ∈ l, s.fit) (hb : ∀ s ∈ l, s.rows.length * 40 ≤ 140737488351232) (hbd : bd ≤ 9223372036854775807)
    (he : chooseA l nw bd = .tup [.a (.int .i64 j), .a (.int .i64 b), .a (.int .i64 0)]) :
    PDen Try.prog 14 [.a (.slice 3 (l.map Store.row)), .a (.str key), .a (.int .i64 nw), .a (.int .i64 bd)] (.tup [.agg (getV l[j] key b).row, .a (.int .i64 (readAt (getE l[j] key b) b)), .a (.int .i64 (getE l[j] key b))]) := by
  refine den_of_body k_stale_Read ⟨rfl, Nat.le_of_ble_eq_true rfl, thaw_intro ?_⟩
  unfold c_stale_Read
  simp only [go_sem]
  refine t_call_intro (he ▸ choose_den l nw bd (by omega) hf hbd) ?_
  have hx : ((0 : Int) != 0) = false := rfl
  have h5 : (j : Int) < (l.length : Int) := by omega
  have e := getD_map Store.row l j hj
  simp only [hx, h5, e, go_sem]
  refine t_call_intro (mget_den l[j] (hf _ (List.getElem_mem hj)) (hb _ (List.getElem_mem hj)) key hk b) ?_
  simp only [go_sem]
  first | refine t_case_dec (fun h => ?_) (fun h => ?_) | refine t_case_ndec (fun h => ?_) (fun h => ?_) | refine t_case_eqI (fun h => ?_) (fun h => ?_) | refine t_case_neI (fun h => ?_) (fun h => ?_) | refine t_case_not (fun h => ?_) (fun h => ?_) | refine t_case_intro (fun h => ?_) (fun h => ?_)
  · simp only [go_sem]
    simp only [aresult, ares, go_sem]
    simp only [readAt, h, if_true]
  · simp only [go_sem]
    simp only [aresult, ares, go_sem]
    simp only [readAt, getV, if_neg h]
    rfl
set_option maxRecDepth 100000 in
set_option maxHeartbeats 1000000 in
theorem rread_ok (l : List Store) (nw bd b : Int) (j : Nat) (hj : j < l.length) (key : ByteArray) (hk : key.size ≤ 9223372036854775807) (hl : l.length * 40 ≤ 140737488351232) (hf : ∀ s ∈ l, s.fit) (hb : ∀ s ∈ l, s.rows.length * 40 ≤ 140737488351232) (hbd : bd ≤ 9223372036854775807)
    (he : chooseA l nw bd = .tup [.a (.int .i64 j), .a (.int .i64 b), .a (.int .i64 0)]) :
    PDen Try.prog 15 [.a (.slice 3 (l.map Store.row)), .a (.str key), .a (.int .i64 nw), .a (.int .i64 bd)] (.tup [.agg (getV l[j] key b).row, .a (.int .i64 (readAt (getE l[j] key b) b)), .a (.int .i64 (getE l[j] key b))]) := by
  refine den_of_body k_ref52_Read ⟨rfl, Nat.le_of_ble_eq_true rfl, thaw_intro ?_⟩
  unfold c_ref52_Read
  simp only [go_sem]
  refine t_call_intro (he ▸ rchoose_den l nw bd (by omega) hf hbd) ?_
  have hx : ((0 : Int) != 0) = false := rfl
  have h5 : (j : Int) < (l.length : Int) := by omega
  have e := getD_map Store.row l j hj
  simp only [hx, h5, e, go_sem]
  refine t_call_intro (rmget_den l[j] (hf _ (List.getElem_mem hj)) (hb _ (List.getElem_mem hj)) key hk b) ?_
  simp only [go_sem]
  first | refine t_case_dec (fun h => ?_) (fun h => ?_) | refine t_case_ndec (fun h => ?_) (fun h => ?_) | refine t_case_eqI (fun h => ?_) (fun h => ?_) | refine t_case_neI (fun h => ?_) (fun h => ?_) | refine t_case_not (fun h => ?_) (fun h => ?_) | refine t_case_intro (fun h => ?_) (fun h => ?_)
  · simp only [go_sem]
    simp only [aresult, ares, go_sem]
    simp only [readAt, h, if_true]
  · simp only [go_sem]
    simp only [aresult, ares, go_sem]
    simp only [readAt, getV, if_neg h]
    rfl

/-! Snapshots -/
def snapBad (r : Rg) (at_ : Int) : Prop := rangeV r = false ∨ at_ < 0 ∨ 1099511627776 < at_
set_option maxRecDepth 100000 in
set_option maxHeartbeats 1000000 in
theorem snap_bad (l : List Store) (r : Rg) (hr : r.fit) (at_ : Int) (h : snapBad r at_) :
    PDen Try.prog 16 [.a (.slice 3 (l.map Store.row)), .agg r.row, .a (.int .i64 at_)] (.tup [.a .nils, .a (.int .i64 1)]) := by
  refine den_of_body k_stale_Snapshot ⟨rfl, Nat.le_of_ble_eq_true rfl, thaw_intro ?_⟩
  unfold c_stale_Snapshot
  simp only [go_sem]
  refine t_call_intro (rangeV_den r hr) ?_
  simp only [go_sem]
  first | refine t_case_dec (fun h1 => ?_) (fun h1 => ?_) | refine t_case_ndec (fun h1 => ?_) (fun h1 => ?_) | refine t_case_eqI (fun h1 => ?_) (fun h1 => ?_) | refine t_case_neI (fun h1 => ?_) (fun h1 => ?_) | refine t_case_not (fun h1 => ?_) (fun h1 => ?_) | refine t_case_intro (fun h1 => ?_) (fun h1 => ?_)
  rotate_left
  · simp only [go_sem]
    simp only [aresult, ares, go_sem]
  simp only [go_sem]
  first | refine t_case_dec (fun h2 => ?_) (fun h2 => ?_) | refine t_case_ndec (fun h2 => ?_) (fun h2 => ?_) | refine t_case_eqI (fun h2 => ?_) (fun h2 => ?_) | refine t_case_neI (fun h2 => ?_) (fun h2 => ?_) | refine t_case_not (fun h2 => ?_) (fun h2 => ?_) | refine t_case_intro (fun h2 => ?_) (fun h2 => ?_)
  · simp only [go_sem]
    simp only [aresult, ares, go_sem]
  simp only [go_sem]
  first | refine t_case_dec (fun h3 => ?_) (fun h3 => ?_) | refine t_case_ndec (fun h3 => ?_) (fun h3 => ?_) | refine t_case_eqI (fun h3 => ?_) (fun h3 => ?_) | refine t_case_neI (fun h3 => ?_) (fun h3 => ?_) | refine t_case_not (fun h3 => ?_) (fun h3 => ?_) | refine t_case_intro (fun h3 => ?_) (fun h3 => ?_)
  · simp only [go_sem]
    simp only [aresult, ares, go_sem]
  · exact absurd h (by simp [snapBad, h1, h2, h3])
set_option maxRecDepth 100000 in
set_option maxHeartbeats 1000000 in
theorem rsnap_bad (l : List Store) (r : Rg) (hr : r.fit) (at_ : Int) (h : snapBad r at_) :
    PDen Try.prog 17 [.a (.slice 3 (l.map Store.row)), .agg r.row, .a (.int .i64 at_)] (.tup [.a .nils, .a (.int .i64 1)]) := by
  refine den_of_body k_ref52_Snapshot ⟨rfl, Nat.le_of_ble_eq_true rfl, thaw_intro ?_⟩
  unfold c_ref52_Snapshot
  simp only [go_sem]
  refine t_call_intro (rrangeV_den r hr) ?_
  simp only [go_sem]
  first | refine t_case_dec (fun h1 => ?_) (fun h1 => ?_) | refine t_case_ndec (fun h1 => ?_) (fun h1 => ?_) | refine t_case_eqI (fun h1 => ?_) (fun h1 => ?_) | refine t_case_neI (fun h1 => ?_) (fun h1 => ?_) | refine t_case_not (fun h1 => ?_) (fun h1 => ?_) | refine t_case_intro (fun h1 => ?_) (fun h1 => ?_)
  rotate_left
  · simp only [go_sem]
    simp only [aresult, ares, go_sem]
  simp only [go_sem]
  first | refine t_case_dec (fun h2 => ?_) (fun h2 => ?_) | refine t_case_ndec (fun h2 => ?_) (fun h2 => ?_) | refine t_case_eqI (fun h2 => ?_) (fun h2 => ?_) | refine t_case_neI (fun h2 => ?_) (fun h2 => ?_) | refine t_case_not (fun h2 => ?_) (fun h2 => ?_) | refine t_case_intro (fun h2 => ?_) (fun h2 => ?_)
  · simp only [go_sem]
    simp only [aresult, ares, go_sem]
  simp only [go_sem]
  first | refine t_case_dec (fun h3 => ?_) (fun h3 => ?_) | refine t_case_ndec (fun h3 => ?_) (fun h3 => ?_) | refine t_case_eqI (fun h3 => ?_) (fun h3 => ?_) | refine t_case_neI (fun h3 => ?_) (fun h3 => ?_) | refine t_case_not (fun h3 => ?_) (fun h3 => ?_) | refine t_case_intro (fun h3 => ?_) (fun h3 => ?_)
  · simp only [go_sem]
    simp only [aresult, ares, go_sem]
  · exact absurd h (by simp [snapBad, h1, h2, h3])

theorem not_bad {r : Rg} {at_ : Int} (h : ¬ snapBad r at_) : rangeV r = true ∧ ¬ at_ < 0 ∧ ¬ 1099511627776 < at_ := by
  simp only [snapBad, not_or, Bool.not_eq_false] at h
  exact h
set_option maxRecDepth 100000 in
set_option maxHeartbeats 1000000 in
theorem snap_none (l : List Store) (hl : l.length * 40 ≤ 140737488351232) (hf : ∀ s ∈ l, s.fit) (r : Rg) (hr : r.fit) (at_ : Int) (h : ¬ snapBad r at_) (hno : ∀ (i : Nat) (hi : i < l.length), readB l[i] at_ = false) :
    PDen Try.prog 16 [.a (.slice 3 (l.map Store.row)), .agg r.row, .a (.int .i64 at_)] (.tup [.a .nils, .a (.int .i64 15)]) := by
  obtain ⟨h1, h2, h3⟩ := not_bad h
  have d2 : decide (at_ < 0) = false := decide_eq_false h2
  have d3 : decide (1099511627776 < at_) = false := decide_eq_false h3
  refine den_of_body k_stale_Snapshot ⟨rfl, Nat.le_of_ble_eq_true rfl, thaw_intro ?_⟩
  unfold c_stale_Snapshot
  simp only [go_sem]
  refine t_call_intro (h1 ▸ rangeV_den r hr) ?_
  simp only [d2, d3, go_sem]
  refine t_loop_intro (fun k : Nat => k ≤ l.length) (fun k => l.length - k) 0 [6, 7, 9, 10, 11, 25, 26, 27, 28, 29, 30, 31, 32, 33, 34, 35, 36, 37, 38, 39, 40, 41, 42, 43, 44, 45] (fun k => [(25, .a (.int .i64 k))]) (by omega) (by simp) (fun k => by simp) rfl ?_
  intro k hk fr_ hfr
  simp only [go_sem] at hfr
  subst hfr
  by_cases hlt : k < l.length
  · have h3 : (k : Int) < (l.length : Int) := by omega
    have ew := wrap1 k l.length hlt (by omega)
    have e := getD_map Store.row l k hlt
    simp only [h3, e, go_sem]
    refine t_call_intro (hno k hlt ▸ readable_den l[k] (hf _ (List.getElem_mem hlt)) at_) ?_
    simp only [ew, go_sem]
    refine t_round (k + 1) (by omega) (by omega) (by simp) rfl rfl (by simp) rfl
  · have h3 : ¬ (k : Int) < (l.length : Int) := by omega
    simp only [h3, go_sem]
    simp only [aresult, ares, go_sem]
set_option maxRecDepth 100000 in
set_option maxHeartbeats 1000000 in
theorem rsnap_none (l : List Store) (hl : l.length * 40 ≤ 140737488351232) (hf : ∀ s ∈ l, s.fit) (r : Rg) (hr : r.fit) (at_ : Int) (h : ¬ snapBad r at_) (hno : ∀ (i : Nat) (hi : i < l.length), readB l[i] at_ = false) :
    PDen Try.prog 17 [.a (.slice 3 (l.map Store.row)), .agg r.row, .a (.int .i64 at_)] (.tup [.a .nils, .a (.int .i64 15)]) := by
  obtain ⟨h1, h2, h3⟩ := not_bad h
  have d2 : decide (at_ < 0) = false := decide_eq_false h2
  have d3 : decide (1099511627776 < at_) = false := decide_eq_false h3
  have hx : ((0 : Int) == 0) = true := rfl
  refine den_of_body k_ref52_Snapshot ⟨rfl, Nat.le_of_ble_eq_true rfl, thaw_intro ?_⟩
  unfold c_ref52_Snapshot
  simp only [go_sem]
  refine t_call_intro (h1 ▸ rrangeV_den r hr) ?_
  simp only [d2, d3, go_sem]
  refine t_call_intro (ravail_den l at_ hl hf) ?_
  have : idxRows (canB l at_) l.length = [] := by
    unfold idxRows idxs
    rw [List.map_eq_nil_iff, List.filter_eq_nil_iff]
    intro i hi
    have hi' : i < l.length := by simpa using hi
    simp [canB, hi', hno i hi']
  rw [this]
  simp only [hx, Int.natCast_zero, go_sem]
  simp only [aresult, ares, go_sem]

def shown (s : Store) (at_ : Int) : List Pr := pairsTo (fun r => vlAt r.vs at_) s.rows s.rows.length
theorem shown_len (s : Store) (at_ : Int) : (shown s at_).length ≤ s.rows.length := by
  have := pairRows_len (fun r => vlAt r.vs at_) s.rows s.rows.length
  unfold pairRows at this
  rw [List.length_map] at this
  exact this
theorem readB_at (s : Store) (at_ : Int) (h : readB s at_ = true) : storeV s = true ∧ posE s at_ = 0 := by
  unfold readB at h
  simp only [Bool.and_eq_true, decide_eq_true_eq] at h
  refine ⟨h.1, ?_⟩
  unfold posE
  rw [if_neg (by omega)]
theorem atA_ok (f : Row → Vl) (s : Store) (at_ : Int) (h : readB s at_ = true) : atA f s at_ = .tup [.a (.slice 4 (pairRows f s.rows s.rows.length)), .a (.int .i64 0)] := by
  obtain ⟨h1, h2⟩ := readB_at s at_ h
  unfold atA
  rw [if_neg (by simp [h1]), if_neg (by simp [h2])]

set_option maxRecDepth 100000 in
set_option maxHeartbeats 1000000 in
theorem snap_some (l : List Store) (hl : l.length * 40 ≤ 140737488351232) (hf : ∀ s ∈ l, s.fit) (hb : ∀ s ∈ l, s.rows.length * 40 ≤ 140737488351232) (r : Rg) (hr : r.fit) (at_ : Int) (h : ¬ snapBad r at_) (j : Nat) (hj : j < l.length) (hyes : readB l[j] at_ = true) (hno : ∀ (i : Nat) (hi : i < l.length), i < j → readB l[i] at_ = false) :
    PDen Try.prog 16 [.a (.slice 3 (l.map Store.row)), .agg r.row, .a (.int .i64 at_)] (.tup [.a (.slice 4 (sliceRows r (shown l[j] at_) (shown l[j] at_).length)), .a (.int .i64 0)]) := by
  obtain ⟨h1, h2, h3⟩ := not_bad h
  have d2 : decide (at_ < 0) = false := decide_eq_false h2
  have d3 : decide (1099511627776 < at_) = false := decide_eq_false h3
  have hx : ((0 : Int) != 0) = false := rfl
  refine den_of_body k_stale_Snapshot ⟨rfl, Nat.le_of_ble_eq_true rfl, thaw_intro ?_⟩
  unfold c_stale_Snapshot
  simp only [go_sem]
  refine t_call_intro (h1 ▸ rangeV_den r hr) ?_
  simp only [d2, d3, go_sem]
  refine t_loop_intro (fun k : Nat => k ≤ l.length ∧ (k ≤ j)) (fun k => l.length - k) 0 [6, 7, 9, 10, 11, 25, 26, 27, 28, 29, 30, 31, 32, 33, 34, 35, 36, 37, 38, 39, 40, 41, 42, 43, 44, 45] (fun k => [(25, .a (.int .i64 k))]) ⟨by omega, by simp⟩ (by simp) (fun k => by simp) rfl ?_
  intro k hk0 fr_ hfr
  have hk : k ≤ l.length := hk0.1
  have hall := hk0.2
  clear hk0
  simp only [go_sem] at hfr
  subst hfr
  by_cases hlt : k < l.length
  · have h3 : (k : Int) < (l.length : Int) := by omega
    have ew := wrap1 k l.length hlt (by omega)
    have e := getD_map Store.row l k hlt
    simp only [h3, e, go_sem]
    by_cases hkj : k < j
    · refine t_call_intro (hno k hlt hkj ▸ readable_den l[k] (hf _ (List.getElem_mem hlt)) at_) ?_
      simp only [ew, go_sem]
      refine t_round (k + 1) ⟨by omega, by omega⟩ (by omega) (by simp) rfl rfl (by simp) rfl
    · have hkj : k = j := by omega
      subst hkj
      refine t_call_intro (hyes ▸ readable_den l[k] (hf _ (List.getElem_mem hlt)) at_) ?_
      simp only [go_sem]
      refine t_call_intro (atA_ok _ _ _ hyes ▸ at_den l[k] (hf _ (List.getElem_mem hlt)) (hb _ (List.getElem_mem hlt)) at_) ?_
      simp only [hx, go_sem]
      have hsl := shown_len l[k] at_
      have hbk := hb _ (List.getElem_mem hlt)
      refine t_call_intro (slice_den (shown l[k] at_) (by omega) r hr) ?_
      simp only [go_sem]
      simp only [aresult, ares, go_sem]
  · omega
theorem idxs_first (p : Nat → Bool) (j : Nat) (hp : p j = true) (hno : ∀ i, i < j → p i = false) : ∀ n, j < n → ∃ t, idxs p n = j :: t
  | n + 1, hn => by
    by_cases hjn : j < n
    · obtain ⟨t, ht⟩ := idxs_first p j hp hno n hjn
      refine ⟨t ++ (if p n then [n] else []), ?_⟩
      unfold idxs at ht ⊢
      rw [List.range_succ, List.filter_append, ht]
      by_cases hpn : p n = true <;> simp [hpn]
    · have : j = n := by omega
      subst this
      refine ⟨[], ?_⟩
      unfold idxs
      rw [List.range_succ, List.filter_append]
      have : (List.range j).filter p = [] := by
        rw [List.filter_eq_nil_iff]
        intro i hi
        simp [hno i (by simpa using hi)]
      rw [this]; simp [hp]
set_option maxRecDepth 100000 in
set_option maxHeartbeats 1000000 in
theorem rsnap_some (l : List Store) (hl : l.length * 40 ≤ 140737488351232) (hf : ∀ s ∈ l, s.fit) (hb : ∀ s ∈ l, s.rows.length * 40 ≤ 140737488351232) (r : Rg) (hr : r.fit) (at_ : Int) (h : ¬ snapBad r at_) (j : Nat) (hj : j < l.length) (hyes : readB l[j] at_ = true) (hno : ∀ (i : Nat) (hi : i < l.length), i < j → readB l[i] at_ = false) :
    PDen Try.prog 17 [.a (.slice 3 (l.map Store.row)), .agg r.row, .a (.int .i64 at_)] (.tup [.a (.slice 4 (sliceRows r (shown l[j] at_) (shown l[j] at_).length)), .a (.int .i64 0)]) := by
  obtain ⟨h1, h2, h3⟩ := not_bad h
  have d2 : decide (at_ < 0) = false := decide_eq_false h2
  have d3 : decide (1099511627776 < at_) = false := decide_eq_false h3
  refine den_of_body k_ref52_Snapshot ⟨rfl, Nat.le_of_ble_eq_true rfl, thaw_intro ?_⟩
  unfold c_ref52_Snapshot
  simp only [go_sem]
  refine t_call_intro (h1 ▸ rrangeV_den r hr) ?_
  simp only [d2, d3, go_sem]
  refine t_call_intro (ravail_den l at_ hl hf) ?_
  obtain ⟨t, ht⟩ := idxs_first (canB l at_) j (by simp [canB, hj, hyes]) (fun i hi => by simp [canB, (show i < l.length by omega), hno i (by omega) hi]) l.length hj
  have hR : idxRows (canB l at_) l.length = [Atom.int .i64 (j : Int)] :: t.map (fun i : Nat => [Atom.int .i64 (i : Int)]) := by
    unfold idxRows; rw [ht]; rfl
  rw [hR]
  have hp : ((((t.map (fun i : Nat => [Atom.int .i64 (i : Int)])).length + 1 : Nat) : Int) == 0) = false := by
    rw [beq_eq_false_iff_ne]; omega
  have hp2 : (0 : Int) < (((t.length + 1 : Nat)) : Int) := by omega
  have h5 : (j : Int) < (l.length : Int) := by omega
  have e := getD_map Store.row l j hj
  rw [List.length_map] at hp
  simp only [hp, hp2, h5, e, go_sem]
  refine t_call_intro (atA_ok _ _ _ hyes ▸ rat_den l[j] (hf _ (List.getElem_mem hj)) (hb _ (List.getElem_mem hj)) at_) ?_
  simp only [go_sem]
  have hsl := shown_len l[j] at_
  have hbk := hb _ (List.getElem_mem hj)
  have hps := pairs_same l[j] (readB_at _ _ hyes).1 at_
  unfold pairRows
  rw [hps]
  refine t_call_intro (rslice_den (shown l[j] at_) (by omega) r hr) ?_
  simp only [go_sem]
  simp only [aresult, ares, go_sem]
theorem first_or (l : List Store) (at_ : Int) : (∀ (i : Nat) (hi : i < l.length), readB l[i] at_ = false) ∨ ∃ (j : Nat) (hj : j < l.length), readB l[j] at_ = true ∧ ∀ (i : Nat) (hi : i < l.length), i < j → readB l[i] at_ = false := by
  have key : ∀ n, n ≤ l.length → (∀ (i : Nat) (hi : i < l.length), i < n → readB l[i] at_ = false) ∨ ∃ (j : Nat) (hj : j < l.length), readB l[j] at_ = true ∧ ∀ (i : Nat) (hi : i < l.length), i < j → readB l[i] at_ = false := by
    intro n
    induction n with
    | zero => intro _; exact .inl fun i _ h => by omega
    | succ n ih =>
      intro hn
      rcases ih (by omega) with h | h
      · cases hb : readB l[n] at_ with
        | true => exact .inr ⟨n, by omega, hb, h⟩
        | false =>
          refine .inl fun i hi hin => ?_
          by_cases hx : i = n
          · subst hx; exact hb
          · exact h i hi (by omega)
      · exact .inr h
  rcases key l.length (Nat.le_refl _) with h | h
  · exact .inl fun i hi => h i hi hi
  · exact .inr h
end Go.Proofs.Ytpicnfikpeekeaa
