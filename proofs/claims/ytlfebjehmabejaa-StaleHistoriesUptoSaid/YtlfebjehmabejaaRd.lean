/- What a row of a store shows at a position; ranges of keys; the search for a key. -/
import Derived.Test.YtlfebjehmabejaaRs
set_option linter.unusedSimpArgs false
set_option linter.unusedVariables false
namespace Go.Proofs.Ytlfebjehmabejaa
open Go Ab
attribute [local irreducible] awp aops aop asoft aeff aloop acall
attribute [local go_sem] Vl.row Ver.row Row.row Store.row

def vl0 : Vl := ⟨0, 0, ⟨#[]⟩⟩
def seenGo (at_ : Int) : List Ver → Nat
  | [] => 0
  | x :: xs => if x.at_ ≤ at_ then seenGo at_ xs + 1 else 0
def vlAt (vs : List Ver) (at_ : Int) : Vl := match seenGo at_ vs with
  | 0 => vl0
  | n + 1 => match vs[n]? with | none => vl0 | some x => x.v
theorem seenGo_le (at_ : Int) : ∀ vs : List Ver, seenGo at_ vs ≤ vs.length
  | [] => Nat.le_refl _
  | x :: xs => by
    unfold seenGo
    split
    · have := seenGo_le at_ xs; simp; omega
    · simp
theorem seenGo_step (at_ : Int) (vs : List Ver) (k : Nat) (h : k < vs.length) : seenGo at_ (vs.drop k) = if vs[k].at_ ≤ at_ then seenGo at_ (vs.drop (k + 1)) + 1 else 0 := by
  rw [List.drop_eq_getElem_cons h]; rfl

set_option maxRecDepth 100000 in
set_option maxHeartbeats 1000000 in
theorem seen_den (r : Row) (hs : r.vs.length ≤ 9223372036854775807) (at_ : Int) :
    PDen Try.prog 56 [.agg r.row, .a (.int .i64 at_)] (.a (.int .i64 (seenGo at_ r.vs : Nat))) := by
  obtain ⟨key, vs⟩ := r
  simp only at hs
  refine den_of_body k_mvstore_seen ⟨rfl, Nat.le_of_ble_eq_true rfl, thaw_intro ?_⟩
  unfold c_mvstore_seen
  simp only [go_sem]
  refine t_loop_intro (fun k : Nat => k ≤ vs.length ∧ (seenGo at_ vs = k + seenGo at_ (vs.drop k))) (fun k => vs.length - k) 0 [5, 6, 7, 8, 9, 10, 11, 12, 13, 14, 15, 16, 17, 18, 19, 20, 21, 22] (fun k => [(5, .a (.int .i64 k))]) ⟨by omega, by simp⟩ (by simp) (fun k => by simp) rfl ?_
  intro k hk0 fr_ hfr
  have hk : k ≤ vs.length := hk0.1
  have hall := hk0.2
  clear hk0
  simp only [go_sem] at hfr
  subst hfr
  by_cases hlt : k < vs.length
  · have h3 : (k : Int) < (vs.length : Int) := by omega
    have ew := wrap1 k vs.length hlt hs
    have e := getD_map Ver.row vs k hlt
    have es := seenGo_step at_ vs k hlt
    simp only [h3, e, go_sem]
    first | refine t_case_dec (fun h4 => ?_) (fun h4 => ?_) | refine t_case_ndec (fun h4 => ?_) (fun h4 => ?_) | refine t_case_eqI (fun h4 => ?_) (fun h4 => ?_) | refine t_case_neI (fun h4 => ?_) (fun h4 => ?_) | refine t_case_not (fun h4 => ?_) (fun h4 => ?_) | refine t_case_intro (fun h4 => ?_) (fun h4 => ?_)
    · rw [if_pos h4] at es
      simp only [ew, go_sem]
      refine t_round (k + 1) ⟨by omega, by omega⟩ (by omega) (by simp) rfl rfl (by simp) rfl
    · rw [if_neg h4] at es
      have hke : seenGo at_ vs = k := by omega
      simp only [go_sem]
      simp only [aresult, ares, go_sem]
      rw [hke]
  · have h3 : ¬ (k : Int) < (vs.length : Int) := by omega
    rw [List.drop_eq_nil_of_le (by omega)] at hall
    have hke : seenGo at_ vs = k := by rw [hall]; rfl
    simp only [h3, go_sem]
    simp only [aresult, ares, go_sem]
    rw [hke]

set_option maxRecDepth 100000 in
set_option maxHeartbeats 1000000 in
theorem valueAt_den (r : Row) (hs : r.vs.length ≤ 9223372036854775807) (at_ : Int) :
    PDen Try.prog 28 [.agg r.row, .a (.int .i64 at_)] (.agg (vlAt r.vs at_).row) := by
  obtain ⟨key, vs⟩ := r
  simp only at hs
  refine den_of_body k_mvstore_valueAt ⟨rfl, Nat.le_of_ble_eq_true rfl, thaw_intro ?_⟩
  unfold c_mvstore_valueAt
  simp only [go_sem]
  refine t_call_intro (seen_den ⟨key, vs⟩ hs at_) ?_
  have hle := seenGo_le at_ vs
  unfold vlAt
  generalize hn : seenGo at_ vs = n at *
  simp only [go_sem]
  first | refine t_case_dec (fun h => ?_) (fun h => ?_) | refine t_case_ndec (fun h => ?_) (fun h => ?_) | refine t_case_eqI (fun h => ?_) (fun h => ?_) | refine t_case_neI (fun h => ?_) (fun h => ?_) | refine t_case_not (fun h => ?_) (fun h => ?_) | refine t_case_intro (fun h => ?_) (fun h => ?_)
  · have hn0 : n = 0 := by omega
    subst hn0
    simp only [go_sem]
    simp only [aresult, ares, go_sem]
    rfl
  · obtain ⟨m, rfl⟩ : ∃ m, n = m + 1 := ⟨n - 1, by omega⟩
    have ew := unwrap1 (m + 1) (by omega) (by omega)
    rw [Nat.add_sub_cancel] at ew
    have hlt : m < vs.length := by omega
    have h3 : (m : Int) < (vs.length : Int) := by omega
    have e := getD_map Ver.row vs m hlt
    simp only [ew, h3, e, go_sem]
    simp only [aresult, ares, go_sem]
    simp [hlt]

/-! The last version that is not younger -/
def lastV (vs : List Ver) (at_ : Int) : Nat → Vl
  | 0 => vl0
  | k + 1 => match vs[k]? with
    | none => lastV vs at_ k
    | some x => if x.at_ ≤ at_ then x.v else lastV vs at_ k
theorem lastV_yes (vs : List Ver) (at_ : Int) (k : Nat) (h : k < vs.length) (h2 : vs[k].at_ ≤ at_) : lastV vs at_ (k + 1) = vs[k].v := by
  simp only [lastV, List.getElem?_eq_getElem h, if_pos h2]
theorem lastV_no (vs : List Ver) (at_ : Int) (k : Nat) (h : k < vs.length) (h2 : ¬ vs[k].at_ ≤ at_) : lastV vs at_ (k + 1) = lastV vs at_ k := by
  simp only [lastV, List.getElem?_eq_getElem h, if_neg h2]

set_option maxRecDepth 100000 in
set_option maxHeartbeats 1000000 in
theorem rseen_den (r : Row) (hs : r.vs.length ≤ 9223372036854775807) (at_ : Int) :
    PDen Try.prog 33 [.agg r.row, .a (.int .i64 at_)] (.agg (lastV r.vs at_ r.vs.length).row) := by
  obtain ⟨key, vs⟩ := r
  simp only at hs
  refine den_of_body k_ref22_seen ⟨rfl, Nat.le_of_ble_eq_true rfl, thaw_intro ?_⟩
  unfold c_ref22_seen
  simp only [go_sem]
  refine t_loopO_intro [] (fun k : Nat => k ≤ vs.length) (fun k => vs.length - k) 0 [6, 8, 9, 10, 11, 12, 13, 14, 15, 16, 17, 18, 19, 20, 21, 22, 23, 24, 25, 26, 27, 28] (fun k => [(6, .a (.int .i64 k))]) (fun k => [[.a (.str key), .a (.slice 4 (vs.map Ver.row))], [.a (.int .i64 0), .a (.int .i64 0), .a (.str ⟨#[]⟩)], [.a (.int .i64 (lastV vs at_ k).kind), .a (.int .i64 (lastV vs at_ k).n), .a (.str (lastV vs at_ k).s)]]) (fun k => []) (by omega) (by simp) (by first | (simp; done) | simp [lastV, vl0]) (by first | (simp; done) | simp [lastV, vl0]) (by first | (simp; done) | simp [lastV, vl0]) (fun k => by first | (simp; done) | simp [lastV, vl0]) (fun k => by first | (simp; done) | simp [lastV, vl0]) (fun k => by first | (simp; done) | simp [lastV, vl0]) ?_
  intro k hk st_ hst
  simp only [go_sem] at hst
  subst hst
  by_cases hlt : k < vs.length
  · have h3 : (k : Int) < (vs.length : Int) := by omega
    have ew := wrap1 k vs.length hlt hs
    have e := getD_map Ver.row vs k hlt
    simp only [h3, e, go_sem]
    first | refine t_case_dec (fun h4 => ?_) (fun h4 => ?_) | refine t_case_ndec (fun h4 => ?_) (fun h4 => ?_) | refine t_case_eqI (fun h4 => ?_) (fun h4 => ?_) | refine t_case_neI (fun h4 => ?_) (fun h4 => ?_) | refine t_case_not (fun h4 => ?_) (fun h4 => ?_) | refine t_case_intro (fun h4 => ?_) (fun h4 => ?_)
    · have es := lastV_yes vs at_ k hlt h4
      simp only [h3, e, ew, go_sem]
      refine t_roundO (k + 1) (by omega) (by omega) (by first | (simp; done) | simp [es]) (by first | (simp; done) | simp [es]) (by first | (simp; done) | simp [es]) (by first | (simp; done) | simp [es]) (by first | (simp; done) | simp [es])
    · have es := lastV_no vs at_ k hlt h4
      simp only [ew, go_sem]
      refine t_roundO (k + 1) (by omega) (by omega) (by first | (simp; done) | simp [es]) (by first | (simp; done) | simp [es]) (by first | (simp; done) | simp [es]) (by first | (simp; done) | simp [es]) (by first | (simp; done) | simp [es])
  · have h3 : ¬ (k : Int) < (vs.length : Int) := by omega
    have hke : k = vs.length := by omega
    subst hke
    simp only [h3, go_sem]
    simp only [aresult, ares, go_sem]

/-! Ranges -/
structure Rg where
  f : ByteArray
  t : ByteArray
def Rg.row (r : Rg) : List Atom := [.str r.f, .str r.t]
def Rg.fit (r : Rg) : Prop := r.f.size ≤ 9223372036854775807 ∧ r.t.size ≤ 9223372036854775807
attribute [local go_sem] Rg.row
def rangeV (r : Rg) : Bool := boundV r.f && boundV r.t && ((r.t.toList == []) || Op.bytesLess r.f.toList r.t.toList)
def containsV (r : Rg) (k : ByteArray) : Bool := rangeV r && !Op.bytesLess k.toList r.f.toList && ((r.t.toList == []) || Op.bytesLess k.toList r.t.toList)
theorem gt_lt (a b : ByteArray) : (!(Op.bytesLess a.toList b.toList || a.toList == b.toList)) = Op.bytesLess b.toList a.toList := strGt_lt a b
theorem le_lt (a b : ByteArray) : (Op.bytesLess a.toList b.toList || a.toList == b.toList) = !Op.bytesLess b.toList a.toList := by
  rw [← gt_lt a b, Bool.not_not]

set_option maxRecDepth 100000 in
theorem rangeV_den (r : Rg) (hr : r.fit) : PDen Try.prog 47 [.agg r.row] (.a (.bool (rangeV r))) := by
  refine den_of_body k_keys_ValidRange ⟨rfl, Nat.le_of_ble_eq_true rfl, thaw_intro ?_⟩
  unfold c_keys_ValidRange
  simp only [go_sem]
  refine t_call_intro (boundV_den r.f hr.1) ?_
  simp only [go_sem]
  first | refine t_case_dec (fun h => ?_) (fun h => ?_) | refine t_case_ndec (fun h => ?_) (fun h => ?_) | refine t_case_eqI (fun h => ?_) (fun h => ?_) | refine t_case_neI (fun h => ?_) (fun h => ?_) | refine t_case_not (fun h => ?_) (fun h => ?_) | refine t_case_intro (fun h => ?_) (fun h => ?_)
  rotate_left
  · simp only [go_sem]
    simp only [aresult, ares, go_sem]
    simp [rangeV, h]
  simp only [go_sem]
  refine t_call_intro (boundV_den r.t hr.2) ?_
  simp only [go_sem]
  first | refine t_case_dec (fun h2 => ?_) (fun h2 => ?_) | refine t_case_ndec (fun h2 => ?_) (fun h2 => ?_) | refine t_case_eqI (fun h2 => ?_) (fun h2 => ?_) | refine t_case_neI (fun h2 => ?_) (fun h2 => ?_) | refine t_case_not (fun h2 => ?_) (fun h2 => ?_) | refine t_case_intro (fun h2 => ?_) (fun h2 => ?_)
  rotate_left
  · simp only [go_sem]
    simp only [aresult, ares, go_sem]
    simp [rangeV, h2]
  simp only [toList_nil, go_sem]
  first | refine t_case_dec (fun h3 => ?_) (fun h3 => ?_) | refine t_case_ndec (fun h3 => ?_) (fun h3 => ?_) | refine t_case_eqI (fun h3 => ?_) (fun h3 => ?_) | refine t_case_neI (fun h3 => ?_) (fun h3 => ?_) | refine t_case_not (fun h3 => ?_) (fun h3 => ?_) | refine t_case_intro (fun h3 => ?_) (fun h3 => ?_)
  · simp only [go_sem]
    simp only [aresult, ares, go_sem]
    simp [rangeV, h, h2, h3]
  · simp only [gt_lt, go_sem]
    simp only [aresult, ares, go_sem]
    simp [rangeV, h, h2, h3]

set_option maxRecDepth 100000 in
theorem containsV_den (r : Rg) (hr : r.fit) (k : ByteArray) : PDen Try.prog 66 [.agg r.row, .a (.str k)] (.a (.bool (containsV r k))) := by
  refine den_of_body k_keys_Contains ⟨rfl, Nat.le_of_ble_eq_true rfl, thaw_intro ?_⟩
  unfold c_keys_Contains
  simp only [go_sem]
  refine t_call_intro (rangeV_den r hr) ?_
  simp only [go_sem]
  first | refine t_case_dec (fun h => ?_) (fun h => ?_) | refine t_case_ndec (fun h => ?_) (fun h => ?_) | refine t_case_eqI (fun h => ?_) (fun h => ?_) | refine t_case_neI (fun h => ?_) (fun h => ?_) | refine t_case_not (fun h => ?_) (fun h => ?_) | refine t_case_intro (fun h => ?_) (fun h => ?_)
  rotate_left
  · simp only [go_sem]
    simp only [aresult, ares, go_sem]
    simp [containsV, h]
  simp only [le_lt, go_sem]
  first | refine t_case_dec (fun h2 => ?_) (fun h2 => ?_) | refine t_case_ndec (fun h2 => ?_) (fun h2 => ?_) | refine t_case_eqI (fun h2 => ?_) (fun h2 => ?_) | refine t_case_neI (fun h2 => ?_) (fun h2 => ?_) | refine t_case_not (fun h2 => ?_) (fun h2 => ?_) | refine t_case_intro (fun h2 => ?_) (fun h2 => ?_)
  · simp only [go_sem]
    simp only [aresult, ares, go_sem]
    simp [containsV, h2]
  simp only [toList_nil, go_sem]
  first | refine t_case_dec (fun h3 => ?_) (fun h3 => ?_) | refine t_case_ndec (fun h3 => ?_) (fun h3 => ?_) | refine t_case_eqI (fun h3 => ?_) (fun h3 => ?_) | refine t_case_neI (fun h3 => ?_) (fun h3 => ?_) | refine t_case_not (fun h3 => ?_) (fun h3 => ?_) | refine t_case_intro (fun h3 => ?_) (fun h3 => ?_)
  · simp only [go_sem]
    simp only [aresult, ares, go_sem]
    simp [containsV, h, h2, h3]
  · simp only [go_sem]
    simp only [aresult, ares, go_sem]
    simp [containsV, h, h2, h3]

/-! The search -/
def cmpV (a b : ByteArray) : Int := if Op.bytesLess a.toList b.toList then -1 else if Op.bytesLess b.toList a.toList then 1 else 0
set_option maxRecDepth 100000 in
theorem cmp_den (r : Row) (k : ByteArray) : PDen Try.prog 53 [.agg r.row, .a (.str k)] (.a (.int .i64 (cmpV r.key k))) := by
  refine den_of_body k_mvstore_find_1 ⟨rfl, Nat.le_of_ble_eq_true rfl, thaw_intro ?_⟩
  unfold c_mvstore_find_1
  simp only [go_sem]
  first | refine t_case_dec (fun h => ?_) (fun h => ?_) | refine t_case_ndec (fun h => ?_) (fun h => ?_) | refine t_case_eqI (fun h => ?_) (fun h => ?_) | refine t_case_neI (fun h => ?_) (fun h => ?_) | refine t_case_not (fun h => ?_) (fun h => ?_) | refine t_case_intro (fun h => ?_) (fun h => ?_)
  · simp only [go_sem]
    simp only [aresult, ares, go_sem]
    simp [cmpV, h]
  simp only [gt_lt, go_sem]
  first | refine t_case_dec (fun h2 => ?_) (fun h2 => ?_) | refine t_case_ndec (fun h2 => ?_) (fun h2 => ?_) | refine t_case_eqI (fun h2 => ?_) (fun h2 => ?_) | refine t_case_neI (fun h2 => ?_) (fun h2 => ?_) | refine t_case_not (fun h2 => ?_) (fun h2 => ?_) | refine t_case_intro (fun h2 => ?_) (fun h2 => ?_)
  · simp only [go_sem]
    simp only [aresult, ares, go_sem]
    simp [cmpV, h, h2]
  · simp only [go_sem]
    simp only [aresult, ares, go_sem]
    simp [cmpV, h, h2]
theorem b_cmp : bodied Try.prog 53 = true := by kernel_rfl

def foundV (rows : List Row) (lo : Nat) (key : ByteArray) : Bool := match rows[lo]? with | none => false | some r => cmpV r.key key == 0

set_option maxRecDepth 100000 in
set_option maxHeartbeats 2000000 in
theorem search_den (rows : List Row) (key : ByteArray) (lo : Nat) (hn : rows.length * 40 ≤ 140737488351232) (hlo : lo ≤ rows.length)
    (h1 : ∀ (i : Nat) (hi : i < rows.length), i < lo → cmpV rows[i].key key < 0) (h2 : ∀ (i : Nat) (hi : i < rows.length), lo ≤ i → ¬ cmpV rows[i].key key < 0) :
    PDen Try.prog 52 [.a (.slice 2 (rows.map Row.row)), .a (.str key), .clo 53 []] (.tup [.a (.int .i64 lo), .a (.bool (foundV rows lo key))]) := by
  refine den_of_body k_slices_BinarySearchFunc_api_Row_api_Row_string ⟨rfl, Nat.le_of_ble_eq_true rfl, thaw_intro ?_⟩
  unfold c_slices_BinarySearchFunc_api_Row_api_Row_string
  simp only [go_sem]
  refine t_loop_intro (fun p : Nat × Nat => p.1 ≤ lo ∧ lo ≤ p.2 ∧ p.2 ≤ rows.length) (fun p => p.2 - p.1) (0, rows.length) [9, 10, 11, 15, 16, 17, 18, 19, 20, 21, 22, 23, 24, 25, 26, 27, 28, 29, 30, 31, 32, 33, 34] (fun p => [(9, .a (.int .i64 (p.1 : Nat))), (10, .a (.int .i64 (p.2 : Nat)))]) ⟨by simp, hlo, by simp⟩ (by simp) (fun k => by simp) rfl ?_
  intro p hp fr_ hfr
  obtain ⟨a, b⟩ := p
  obtain ⟨ha, hb, hbn⟩ := hp
  simp only at ha hb hbn
  simp only [go_sem] at hfr
  subst hfr
  by_cases hlt : a < b
  · have h3 : (a : Int) < (b : Int) := by omega
    have e1 : IntKind.i64.wrap ((a : Int) + (b : Int)) = ((a + b : Nat) : Int) := by rw [IntKind.wrap_i64]; omega
    have e2 : IntKind.u64.wrap ((a + b : Nat) : Int) = ((a + b : Nat) : Int) := by rw [IntKind.wrap_u64]; omega
    have e3 : Int.fdiv ((a + b : Nat) : Int) (2 ^ (min 1 64)) = (((a + b) / 2 : Nat) : Int) := by
      have : (2 : Int) ^ (min 1 64) = 2 := by decide
      rw [this, Int.fdiv_eq_ediv_of_nonneg _ (by omega)]; omega
    obtain ⟨m, hm⟩ : ∃ m, m = (a + b) / 2 := ⟨_, rfl⟩
    rw [← hm] at e3
    have e4 : IntKind.i64.wrap (m : Int) = (m : Int) := by rw [IntKind.wrap_i64]; omega
    have hml : m < rows.length := by omega
    have h5 : (m : Int) < (rows.length : Int) := by omega
    have e := getD_map Row.row rows m hml
    have ew := wrap1 m rows.length hml (by omega)
    simp only [h3, e1, e2, e3, e4, h5, e, b_cmp, go_sem]
    refine t_call_intro (cmp_den rows[m] key) ?_
    simp only [go_sem]
    first | refine t_case_dec (fun h6 => ?_) (fun h6 => ?_) | refine t_case_ndec (fun h6 => ?_) (fun h6 => ?_) | refine t_case_eqI (fun h6 => ?_) (fun h6 => ?_) | refine t_case_neI (fun h6 => ?_) (fun h6 => ?_) | refine t_case_not (fun h6 => ?_) (fun h6 => ?_) | refine t_case_intro (fun h6 => ?_) (fun h6 => ?_)
    · have hlo2 : m < lo := by
        apply Classical.byContradiction; intro hh
        exact h2 m hml (by omega) h6
      simp only [ew, go_sem]
      exact ⟨(m + 1, b), ⟨by simp only; omega, by simp only; omega, by simp only; omega⟩, by simp only; omega, ⟨by simp, rfl, rfl, by simp, rfl⟩⟩
    · have hlo2 : lo ≤ m := by
        apply Classical.byContradiction; intro hh
        exact h6 (h1 m hml (by omega))
      simp only [go_sem]
      exact ⟨(a, m), ⟨by simp only; omega, by simp only; omega, by simp only; omega⟩, by simp only; omega, ⟨by simp, rfl, rfl, by simp, rfl⟩⟩
  · have h3 : ¬ (a : Int) < (b : Int) := by omega
    have hal : a = lo := by omega
    subst hal
    simp only [h3, go_sem]
    first | refine t_case_dec (fun h4 => ?_) (fun h4 => ?_) | refine t_case_ndec (fun h4 => ?_) (fun h4 => ?_) | refine t_case_eqI (fun h4 => ?_) (fun h4 => ?_) | refine t_case_neI (fun h4 => ?_) (fun h4 => ?_) | refine t_case_not (fun h4 => ?_) (fun h4 => ?_) | refine t_case_intro (fun h4 => ?_) (fun h4 => ?_)
    · have hal : a < rows.length := by omega
      have e := getD_map Row.row rows a hal
      simp only [h4, e, b_cmp, go_sem]
      refine t_call_intro (cmp_den rows[a] key) ?_
      simp only [go_sem]
      simp only [aresult, ares, go_sem]
      simp [foundV, hal]
    · have hal : ¬ a < rows.length := by omega
      simp only [go_sem]
      simp only [aresult, ares, go_sem]
      simp [foundV, hal]
end Go.Proofs.Ytlfebjehmabejaa
