/- Chapter 22: Scan, both ways. -/
import Derived.Test.YtobgbmklepcblaaMwF
namespace Go.Proofs.Ytobgbmklepcblaa
open Go Ab
attribute [local irreducible] awp aops aop asoft aeff aloop acall acallI acallT
attribute [local go_sem] Vl.row Ver.row Row.row Store.row Rg.row Pr.row

theorem atE_zero {s : Store} {at_ : Int} (h : atE s at_ = 0) (f : Row → Vl) : storeV s = true ∧ atL f s at_ = .slice 4 ((pairsTo f s.rows s.rows.length).map Pr.row) := by
  unfold atE at h
  unfold atL
  by_cases hv : storeV s = false
  · rw [if_pos hv] at h; simp at h
  · rw [if_neg hv] at h ⊢
    refine ⟨by simpa using hv, ?_⟩
    by_cases h2 : posE s at_ = 0
    · rw [if_neg (by simpa using h2)]; rfl
    · rw [if_pos h2] at h; simp at h
def scanM (most : Int) : Nat := (max most 0).toNat
def inR (r : Rg) (l : List Pr) : List Pr := l.filter fun p => containsV r p.key
def scanL (r : Rg) (l : List Pr) (most : Int) : List Pr := (inR r l).take (scanM most)
def scanK (r : Rg) (l : List Pr) (most : Int) : ByteArray := match (inR r l)[scanM most]? with | none => ⟨#[]⟩ | some p => p.key
theorem inR_split (r : Rg) (l : List Pr) (k : Nat) (h : k < l.length) (hc : containsV r l[k].key = true) : inR r l = inR r (l.take k) ++ l[k] :: inR r (l.drop (k + 1)) := by
  unfold inR
  have e : l = l.take k ++ l[k] :: l.drop (k + 1) := by rw [← List.drop_eq_getElem_cons h, List.take_append_drop]
  rw [show List.filter (fun p => containsV r p.key) l = List.filter (fun p => containsV r p.key) (l.take k ++ l[k] :: l.drop (k + 1)) by rw [← e]]
  rw [List.filter_append, List.filter_cons, if_pos (by simpa using hc)]
theorem scan_hit (r : Rg) (l : List Pr) (most : Int) (k : Nat) (h : k < l.length) (hc : containsV r l[k].key = true) (h1 : (sliceRows r l k).length ≤ scanM most) (h2 : most ≤ ((sliceRows r l k).length : Int)) :
    (scanL r l most).map Pr.row = sliceRows r l k ∧ scanK r l most = l[k].key := by
  have hl : (sliceRows r l k).length = (inR r (l.take k)).length := by unfold sliceRows inR; rw [List.length_map]
  have hm : scanM most = (inR r (l.take k)).length := by unfold scanM at h1 ⊢; omega
  unfold scanL scanK
  rw [inR_split r l k h hc, hm]
  constructor
  · rw [List.take_append_of_le_length (Nat.le_refl _), List.take_length]; rfl
  · rw [List.getElem?_append_right (Nat.le_refl _), Nat.sub_self]; rfl
theorem scan_end (r : Rg) (l : List Pr) (most : Int) (h1 : (sliceRows r l l.length).length ≤ scanM most) :
    (scanL r l most).map Pr.row = sliceRows r l l.length ∧ scanK r l most = ⟨#[]⟩ := by
  have hl : (sliceRows r l l.length).length = (inR r l).length := by unfold sliceRows inR; rw [List.length_map, List.take_length]
  unfold scanL scanK
  constructor
  · rw [List.take_of_length_le (by omega)]; unfold sliceRows inR; rw [List.take_length]
  · rw [List.getElem?_eq_none (by omega)]
def scanA (r : Rg) (s : Store) (at_ most : Int) : AV :=
  if rangeV r = false then .tup [.a .nils, .a (.str ⟨#[]⟩), .a (.int .i64 1)]
  else if atE s at_ = 0 then .tup [.a (.slice 4 ((scanL r (pairsTo (fun r => vlAt r.vs at_) s.rows s.rows.length) most).map Pr.row)), .a (.str (scanK r (pairsTo (fun r => vlAt r.vs at_) s.rows s.rows.length) most)), .a (.int .i64 0)]
  else .tup [.a .nils, .a (.str ⟨#[]⟩), .a (.int .i64 (atE s at_))]

set_option maxRecDepth 100000 in
set_option maxHeartbeats 1000000 in
theorem mscan_den (s : Store) (hs : s.fit) (hm : s.small) (at_ : Int) (r : Rg) (hr : r.fit) (most : Int) :
    PDen Try.prog 30 [.agg s.row, .a (.int .i64 at_), .agg r.row, .a (.int .i64 most)] (scanA r s at_ most) := by
  have hat := at_den s hs hm.1 at_
  rw [atA_eq] at hat
  unfold scanA
  refine den_of_body k_mvstore_Scan ⟨rfl, Nat.le_of_ble_eq_true rfl, thaw_intro ?_⟩
  unfold c_mvstore_Scan
  simp only [go_sem]
  refine t_call_intro (rangeV_den r hr) ?_
  simp only [go_sem]
  first | refine t_case_dec (fun h0 => ?_) (fun h0 => ?_) | refine t_case_ndec (fun h0 => ?_) (fun h0 => ?_) | refine t_case_eqI (fun h0 => ?_) (fun h0 => ?_) | refine t_case_neI (fun h0 => ?_) (fun h0 => ?_) | refine t_case_not (fun h0 => ?_) (fun h0 => ?_) | refine t_case_intro (fun h0 => ?_) (fun h0 => ?_)
  rotate_left
  · simp only [go_sem]
    simp only [aresult, ares, go_sem]
    rw [if_pos h0]
  rw [if_neg (by simp [h0])]
  simp only [go_sem]
  refine t_call_intro (hat) ?_
  simp only [go_sem]
  first | refine t_case_dec (fun h1 => ?_) (fun h1 => ?_) | refine t_case_ndec (fun h1 => ?_) (fun h1 => ?_) | refine t_case_eqI (fun h1 => ?_) (fun h1 => ?_) | refine t_case_neI (fun h1 => ?_) (fun h1 => ?_) | refine t_case_not (fun h1 => ?_) (fun h1 => ?_) | refine t_case_intro (fun h1 => ?_) (fun h1 => ?_)
  rotate_left
  · simp only [go_sem]
    simp only [aresult, ares, go_sem]
    rw [if_neg h1]
  rw [if_pos h1]
  obtain ⟨hv, hl⟩ := atE_zero h1 (fun r => vlAt r.vs at_)
  rw [hl]
  have hlen := pairsTo_len (fun r => vlAt r.vs at_) s.rows s.rows.length
  have hm1 := hm.1
  generalize pairsTo (fun r => vlAt r.vs at_) s.rows s.rows.length = l at *
  simp only [go_sem]
  refine t_loopO_intro [.slot 13 63 4] (fun k : Nat => k ≤ l.length ∧ ((sliceRows r l k).length ≤ scanM most)) (fun k => l.length - k) 0 [8, 9, 10, 13, 15, 30, 31, 32, 33, 34, 35, 36, 37, 38, 39, 40, 41, 42, 43, 44, 45, 46, 47, 48, 49, 50] (fun k => [(13, .own 0), (19, .any), (22, .any), (30, .a (.int .i64 k))]) (fun k => [[.a (.int .i64 s.fl), .a (.int .i64 s.la), .a (.slice 2 (s.rows.map Row.row))], [.a (.str r.f), .a (.str r.t)]]) (fun k => [⟨63, 4, sliceRows r l k, false⟩]) ⟨by omega, by rw [sliceRows_zero]; exact Nat.zero_le _⟩ (by simp) (by first | (simp; done) | simp [sliceRows_zero]) (by first | (simp; done) | simp [sliceRows_zero]) (by first | (simp; done) | simp [sliceRows_zero]) (fun k => by first | (simp; done) | simp [sliceRows_zero]) (fun k => by first | (simp; done) | simp [sliceRows_zero]) (fun k => by first | (simp; done) | simp [sliceRows_zero]) ?_
  intro k hk0 st_ hst
  have hk : k ≤ l.length := hk0.1
  have hall := hk0.2
  clear hk0
  simp only [go_sem] at hst
  subst hst
  by_cases hlt : k < l.length
  · have h3 : (k : Int) < (l.length : Int) := by omega
    have ew := wrap1 k l.length hlt (by omega)
    have e := getD_map Pr.row l k hlt
    have er : l[k].row = [.str l[k].key, .int .i64 l[k].v.kind, .int .i64 l[k].v.n, .str l[k].v.s] := rfl
    have hlen' := sliceRows_len r l k
    simp only [h3, e, er, go_sem]
    refine t_call_intro (containsV_den r hr l[k].key) ?_
    simp only [go_sem]
    first | refine t_case_dec (fun h4 => ?_) (fun h4 => ?_) | refine t_case_ndec (fun h4 => ?_) (fun h4 => ?_) | refine t_case_eqI (fun h4 => ?_) (fun h4 => ?_) | refine t_case_neI (fun h4 => ?_) (fun h4 => ?_) | refine t_case_not (fun h4 => ?_) (fun h4 => ?_) | refine t_case_intro (fun h4 => ?_) (fun h4 => ?_)
    rotate_left
    · simp only [ew, go_sem]
      refine t_roundO (k + 1) ⟨by omega, by rw [sliceRows_no _ _ _ hlt h4]; exact hall⟩ (by omega) (by first | (simp; done) | simp [sliceRows_no _ _ _ hlt h4]) (by first | (simp; done) | simp [sliceRows_no _ _ _ hlt h4]) (by first | (simp; done) | simp [sliceRows_no _ _ _ hlt h4]) (by first | (simp; done) | simp [sliceRows_no _ _ _ hlt h4]) (by first | (simp; done) | simp [sliceRows_no _ _ _ hlt h4])
    simp only [go_sem]
    first | refine t_case_dec (fun h5 => ?_) (fun h5 => ?_) | refine t_case_ndec (fun h5 => ?_) (fun h5 => ?_) | refine t_case_eqI (fun h5 => ?_) (fun h5 => ?_) | refine t_case_neI (fun h5 => ?_) (fun h5 => ?_) | refine t_case_not (fun h5 => ?_) (fun h5 => ?_) | refine t_case_intro (fun h5 => ?_) (fun h5 => ?_)
    · obtain ⟨e1, e2⟩ := scan_hit r l most k hlt h4 hall h5
      simp only [go_sem]
      simp only [aresult, ares, go_sem]
      rw [e1, e2]
    · simp only [go_sem]
      refine t_gate_intro (by omega) ?_
      have ey := sliceRows_yes r l k hlt h4
      simp only [ew, go_sem]
      refine t_roundO (k + 1) ⟨by omega, by rw [ey, List.length_append]; unfold scanM; simp only [List.length_cons, List.length_nil]; omega⟩ (by omega) (by first | (simp; done) | simp [ey]) (by first | (simp; done) | simp [ey]) (by first | (simp; done) | simp [ey]) (by first | (simp; done) | simp [ey]) (by first | (simp; done) | simp [ey])
  · have h3 : ¬ (k : Int) < (l.length : Int) := by omega
    have hke : k = l.length := by omega
    obtain ⟨e1, e2⟩ := scan_end r l most (hke ▸ hall)
    simp only [h3, go_sem]
    simp only [aresult, ares, go_sem]
    rw [e1, e2, hke]

set_option maxRecDepth 100000 in
set_option maxHeartbeats 1000000 in
theorem rscan_den (s : Store) (hs : s.fit) (hm : s.small) (at_ : Int) (r : Rg) (hr : r.fit) (most : Int) :
    PDen Try.prog 31 [.agg s.row, .a (.int .i64 at_), .agg r.row, .a (.int .i64 most)] (scanA r s at_ most) := by
  have hat := rat_den s hs hm.1 at_
  rw [atA_eq, atL_same] at hat
  refine den_of_body k_ref22_Scan ⟨rfl, Nat.le_of_ble_eq_true rfl, thaw_intro ?_⟩
  unfold c_ref22_Scan
  simp only [go_sem]
  refine t_call_intro (rstoreV_den s hs) ?_
  simp only [go_sem]
  first | refine t_case_dec (fun h0 => ?_) (fun h0 => ?_) | refine t_case_ndec (fun h0 => ?_) (fun h0 => ?_) | refine t_case_eqI (fun h0 => ?_) (fun h0 => ?_) | refine t_case_neI (fun h0 => ?_) (fun h0 => ?_) | refine t_case_not (fun h0 => ?_) (fun h0 => ?_) | refine t_case_intro (fun h0 => ?_) (fun h0 => ?_)
  rotate_left
  · simp only [go_sem]
    simp only [aresult, ares, go_sem]
    unfold scanA
    by_cases h1 : rangeV r = false
    · rw [if_pos h1]
    · rw [if_neg h1, show atE s at_ = 1 by simp [atE, h0]]
      rfl
  simp only [go_sem]
  refine t_call_intro (rrangeV_den r hr) ?_
  simp only [go_sem]
  first | refine t_case_dec (fun h1 => ?_) (fun h1 => ?_) | refine t_case_ndec (fun h1 => ?_) (fun h1 => ?_) | refine t_case_eqI (fun h1 => ?_) (fun h1 => ?_) | refine t_case_neI (fun h1 => ?_) (fun h1 => ?_) | refine t_case_not (fun h1 => ?_) (fun h1 => ?_) | refine t_case_intro (fun h1 => ?_) (fun h1 => ?_)
  rotate_left
  · simp only [go_sem]
    simp only [aresult, ares, go_sem]
    unfold scanA
    rw [if_pos h1]
  unfold scanA
  rw [if_neg (by simp [h1])]
  simp only [go_sem]
  refine t_call_intro (hat) ?_
  simp only [go_sem]
  first | refine t_case_dec (fun h2 => ?_) (fun h2 => ?_) | refine t_case_ndec (fun h2 => ?_) (fun h2 => ?_) | refine t_case_eqI (fun h2 => ?_) (fun h2 => ?_) | refine t_case_neI (fun h2 => ?_) (fun h2 => ?_) | refine t_case_not (fun h2 => ?_) (fun h2 => ?_) | refine t_case_intro (fun h2 => ?_) (fun h2 => ?_)
  rotate_left
  · simp only [go_sem]
    simp only [aresult, ares, go_sem]
    rw [if_neg h2]
  rw [if_pos h2]
  obtain ⟨hv, hl⟩ := atE_zero h2 (fun r => vlAt r.vs at_)
  rw [hl]
  have hlen := pairsTo_len (fun r => vlAt r.vs at_) s.rows s.rows.length
  have hm1 := hm.1
  generalize pairsTo (fun r => vlAt r.vs at_) s.rows s.rows.length = l at *
  simp only [go_sem]
  refine t_call_intro (rslice_den l (by omega) r hr) ?_
  have hll : (sliceRows r l l.length).length ≤ l.length := sliceRows_len r l l.length
  have el : (sliceRows r l l.length).length = (inR r l).length := by unfold sliceRows inR; rw [List.length_map, List.take_length]
  have er : sliceRows r l l.length = (inR r l).map Pr.row := by unfold sliceRows inR; rw [List.take_length]
  have em : (if ((sliceRows r l l.length).length : Int) < if 0 > most then 0 else most then ((sliceRows r l l.length).length : Int) else if 0 > most then 0 else most) = ((min (scanM most) (inR r l).length : Nat) : Int) := by
    rw [el]; unfold scanM; split <;> (try split) <;> omega
  simp only [em, go_sem]
  first | refine t_case_dec (fun h3 => ?_) (fun h3 => ?_) | refine t_case_ndec (fun h3 => ?_) (fun h3 => ?_) | refine t_case_eqI (fun h3 => ?_) (fun h3 => ?_) | refine t_case_neI (fun h3 => ?_) (fun h3 => ?_) | refine t_case_not (fun h3 => ?_) (fun h3 => ?_) | refine t_case_intro (fun h3 => ?_) (fun h3 => ?_)
  · have hlt : scanM most < (inR r l).length := by omega
    have emn : min (scanM most) (inR r l).length = scanM most := by omega
    rw [emn]
    have e := getD_map Pr.row (inR r l) (scanM most) hlt
    simp only [er, e, go_sem]
    refine t_gate_intro (by omega) ?_
    have hz : (0 : Int) ≤ (scanM most : Int) := by omega
    have hz2 : (scanM most : Int) < ((inR r l).length : Int) := by omega
    have erow : (inR r l)[scanM most].row = [.str (inR r l)[scanM most].key, .int .i64 (inR r l)[scanM most].v.kind, .int .i64 (inR r l)[scanM most].v.n, .str (inR r l)[scanM most].v.s] := rfl
    simp only [e, erow, hz, hz2, go_sem]
    simp only [aresult, ares, go_sem]
    simp only [scanL, scanK, List.getElem?_eq_getElem hlt, List.map_take]
  · have hge : (inR r l).length ≤ scanM most := by omega
    obtain ⟨e1, e2⟩ := scan_end r l most (by omega)
    simp only [go_sem]
    simp only [aresult, ares, go_sem]
    rw [e1, e2]

def scanLA (r : Rg) (s : Store) (at_ most : Int) : Atom :=
  if rangeV r = false then .nils else if atE s at_ = 0 then .slice 4 ((scanL r (pairsTo (fun r => vlAt r.vs at_) s.rows s.rows.length) most).map Pr.row) else .nils
def scanKA (r : Rg) (s : Store) (at_ most : Int) : ByteArray :=
  if rangeV r = false then ⟨#[]⟩ else if atE s at_ = 0 then scanK r (pairsTo (fun r => vlAt r.vs at_) s.rows s.rows.length) most else ⟨#[]⟩
def scanEA (r : Rg) (s : Store) (at_ : Int) : Int := if rangeV r = false then 1 else atE s at_
theorem scanA_eq (r : Rg) (s : Store) (at_ most : Int) : scanA r s at_ most = .tup [.a (scanLA r s at_ most), .a (.str (scanKA r s at_ most)), .a (.int .i64 (scanEA r s at_))] := by
  unfold scanA scanLA scanKA scanEA
  by_cases h : rangeV r = false
  · simp [h]
  · by_cases h2 : atE s at_ = 0
    · simp [h, h2]
    · simp [h, h2]
theorem scanSame_den (r : Rg) (s : Store) (hm : s.small) (at_ most : Int) : PDen Try.prog 29 [.a (scanLA r s at_ most), .a (scanLA r s at_ most)] (.a (.bool true)) := by
  unfold scanLA
  by_cases h : rangeV r = false
  · rw [if_pos h]; exact same_nil_den
  · rw [if_neg h]
    by_cases h2 : atE s at_ = 0
    · rw [if_pos h2]
      have h3 := pairsTo_len (fun r => vlAt r.vs at_) s.rows s.rows.length
      have h4 := hm.1
      generalize pairsTo (fun r => vlAt r.vs at_) s.rows s.rows.length = l at *
      have h5 : (scanL r l most).length ≤ l.length := by
        unfold scanL inR
        exact Nat.le_trans (List.length_take_le' _ _) (List.length_filter_le _ _)
      exact same_den _ (by omega)
    · rw [if_neg h2]; exact same_nil_den
set_option maxRecDepth 100000 in
set_option maxHeartbeats 1000000 in
theorem mvScans_den (s : Store) (hs : s.fit) (hm : s.small) (at_ : Int) (r : Rg) (hr : r.fit) (most : Int) : PDen Try.prog 9 [.agg s.row, .a (.int .i64 at_), .agg r.row, .a (.int .i64 most)] (.a (.bool true)) := by
  have hms := mscan_den s hs hm at_ r hr most
  have hrs := rscan_den s hs hm at_ r hr most
  rw [scanA_eq] at hms hrs
  have e3 : ((scanKA r s at_ most).toList == (scanKA r s at_ most).toList) = true := by simp
  have e4 : (scanEA r s at_ == scanEA r s at_) = true := by simp
  refine den_of_body k_law22_MvstoreScans ⟨rfl, Nat.le_of_ble_eq_true rfl, thaw_intro ?_⟩
  unfold c_law22_MvstoreScans
  simp only [go_sem]
  refine t_call_intro (few_den s hm 12) ?_
  simp only [go_sem]
  first | refine t_case_dec (fun h0 => ?_) (fun h0 => ?_) | refine t_case_ndec (fun h0 => ?_) (fun h0 => ?_) | refine t_case_eqI (fun h0 => ?_) (fun h0 => ?_) | refine t_case_neI (fun h0 => ?_) (fun h0 => ?_) | refine t_case_not (fun h0 => ?_) (fun h0 => ?_) | refine t_case_intro (fun h0 => ?_) (fun h0 => ?_)
  rotate_left
  · simp only [go_sem]
    refine t_call_intro (lives_den) ?_
    simp only [go_sem]
    simp only [aresult, ares, go_sem]
  simp only [h0, go_sem]
  first | refine t_case_dec (fun h1 => ?_) (fun h1 => ?_) | refine t_case_ndec (fun h1 => ?_) (fun h1 => ?_) | refine t_case_eqI (fun h1 => ?_) (fun h1 => ?_) | refine t_case_neI (fun h1 => ?_) (fun h1 => ?_) | refine t_case_not (fun h1 => ?_) (fun h1 => ?_) | refine t_case_intro (fun h1 => ?_) (fun h1 => ?_)
  · simp only [go_sem]
    refine t_call_intro (lives_den) ?_
    simp only [go_sem]
    simp only [aresult, ares, go_sem]
  simp only [h1, go_sem]
  first | refine t_case_dec (fun h2 => ?_) (fun h2 => ?_) | refine t_case_ndec (fun h2 => ?_) (fun h2 => ?_) | refine t_case_eqI (fun h2 => ?_) (fun h2 => ?_) | refine t_case_neI (fun h2 => ?_) (fun h2 => ?_) | refine t_case_not (fun h2 => ?_) (fun h2 => ?_) | refine t_case_intro (fun h2 => ?_) (fun h2 => ?_)
  · simp only [go_sem]
    refine t_call_intro (lives_den) ?_
    simp only [go_sem]
    simp only [aresult, ares, go_sem]
  simp only [h2, go_sem]
  refine t_call_intro (hms) ?_
  simp only [go_sem]
  refine t_call_intro (hrs) ?_
  simp only [go_sem]
  refine t_call_intro (scanSame_den r s hm at_ most) ?_
  simp only [e3, e4, go_sem]
  refine t_call_intro (lives_den) ?_
  simp only [go_sem]
  simp only [aresult, ares, go_sem]
theorem un_range {n : Nat} {xs : List Atom} (h : Has Try.prog (n + 2) 49 xs) : ∃ v : Rg, xs = v.row ∧ v.fit := by
  unfold Has at h; rw [Try.underlying49] at h
  obtain ⟨p1, r1, rfl, h1, p2, r2, rfl, h2, rfl⟩ := h
  obtain ⟨a, rfl, ha⟩ := un_string h1
  obtain ⟨b, rfl, hb⟩ := un_string h2
  unfold reachBytes at ha hb
  exact ⟨⟨a, b⟩, rfl, by simp only; omega, by simp only; omega⟩
end Go.Proofs.Ytobgbmklepcblaa
