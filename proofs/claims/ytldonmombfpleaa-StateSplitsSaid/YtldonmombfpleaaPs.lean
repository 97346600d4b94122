/- Chapter 06: the law StateSplits, walked. -/
import Derived.Test.YtldonmombfpleaaPt
set_option linter.unusedSimpArgs false
set_option linter.unusedVariables false
namespace Go.Proofs.Ytldonmombfpleaa
open Go Ab
attribute [local irreducible] awp aops aop asoft aeff aloop acall acallI acallT
attribute [local go_sem] Vl.row Rg.row Pr.row

def insL (r : Rg) (l : List Pr) : List Pr := l.filter fun p => containsV r p.key
def outsL (r : Rg) (l : List Pr) : List Pr := l.filter fun p => !containsV r p.key
def outA (r : Rg) (l : List Pr) (k : Nat) : List (List Atom) := ((l.take k).filter fun p => !containsV r p.key).map Pr.row
theorem outA_zero (r : Rg) (l : List Pr) : outA r l 0 = [] := by simp [outA]
theorem outA_len (r : Rg) (l : List Pr) (k : Nat) : (outA r l k).length ≤ k := by
  have h1 := List.length_filter_le (fun p : Pr => !containsV r p.key) (l.take k)
  have h2 := List.length_take_le k l
  simp only [outA, List.length_map]; omega
theorem outA_yes (r : Rg) (l : List Pr) (k : Nat) (h : k < l.length) (h2 : containsV r l[k].key = false) :
    outA r l (k + 1) = outA r l k ++ [[.str l[k].key, .int .i64 l[k].v.kind, .int .i64 l[k].v.n, .str l[k].v.s]] := by
  unfold outA
  rw [List.take_succ_eq_append_getElem h, List.filter_append, List.map_append]
  simp [h2, Pr.row]
theorem outA_no (r : Rg) (l : List Pr) (k : Nat) (h : k < l.length) (h2 : containsV r l[k].key = true) : outA r l (k + 1) = outA r l k := by
  unfold outA
  rw [List.take_succ_eq_append_getElem h, List.filter_append, List.map_append]
  simp [h2]
theorem outA_end (r : Rg) (l : List Pr) : outA r l l.length = (outsL r l).map Pr.row := by unfold outA outsL; rw [List.take_length]
theorem slice_end (r : Rg) (l : List Pr) : sliceRows r l l.length = (insL r l).map Pr.row := by unfold sliceRows insL; rw [List.take_length]

theorem io_len (r : Rg) : ∀ l : List Pr, (insL r l).length + (outsL r l).length = l.length
  | [] => rfl
  | x :: xs => by
    have ih := io_len r xs
    unfold insL outsL at ih ⊢
    rw [List.filter_cons, List.filter_cons]
    cases containsV r x.key <;> simp <;> omega
set_option maxRecDepth 100000 in
set_option maxHeartbeats 4000000 in
theorem splits_den (l : List Pr) (r : Rg) (hr : r.fit) (hl : l.length * 48 ≤ 140737488351232) (fl : ∀ p ∈ l, p.fit) :
    PDen Try.prog 6 [.a (.slice 4 (l.map Pr.row)), .agg r.row] (.a (.bool true)) := by
  have n0 : ((0 : Int) != 0) = false := by decide
  by_cases hv : stateV l = true
  · have hV := stateV_den l (by omega) fl
    rw [hv] at hV
    have hs := (state_iff _).1 hv
    obtain ⟨u1, u2, u3, u4⟩ := un_split hs.1 (fun k => containsV r k)
    change unL (insL r l) (outsL r l) = l at u1
    change unL (outsL r l) (insL r l) = l at u2
    change (uniO (insL r l) (outsL r l)).2 = false at u3
    change (uniO (outsL r l) (insL r l)).2 = false at u4
    have li : (insL r l).length ≤ l.length := List.length_filter_le _ _
    have lo : (outsL r l).length ≤ l.length := List.length_filter_le _ _
    have fi : ∀ p ∈ insL r l, p.fit := fun p hp => fl p (List.mem_filter.1 hp).1
    have fo : ∀ p ∈ outsL r l, p.fit := fun p hp => fl p (List.mem_filter.1 hp).1
    have vi : stateV (insL r l) = true := state_filter hv _
    have vo : stateV (outsL r l) = true := state_filter hv _
    have hio := io_len r l
    have hU1 := uni_ok2 (insL r l) (outsL r l) (by rw [hio]; exact hl) fi fo vi vo u3
    have hU2 := uni_ok2 (outsL r l) (insL r l) (by rw [Nat.add_comm, hio]; exact hl) fo fi vo vi u4
    rw [u1] at hU1
    rw [u2] at hU2
    have hsl := slice_den l (by omega) r hr
    rw [slice_end] at hsl
    have hS := rsame_den l l (by omega)
    rw [prsEq_self] at hS
    refine den_of_body k_law06_StateSplits ⟨rfl, Nat.le_of_ble_eq_true rfl, thaw_intro ?_⟩
    unfold c_law06_StateSplits
    simp only [go_sem]
    refine t_call_intro (hV) ?_
    simp only [go_sem]
    refine t_call_intro (hsl) ?_
    simp only [go_sem]
    refine t_loopO_intro [.slot 6 33 4] (fun k : Nat => k ≤ l.length) (fun k => l.length - k) 0 [6, 7, 8, 22, 23, 24, 25, 26, 27, 28, 29, 30, 31, 32, 33, 34, 35, 36, 37, 38, 39, 40, 41, 42, 43] (fun k => [(6, .own 0), (7, .a (.int .i64 ((sliceRows r l k).length : Nat))), (8, .a (.int .i64 k))]) (fun k => [[.a (.str r.f), .a (.str r.t)]]) (fun k => [⟨33, 4, outA r l k, false⟩]) (by omega) (by simp) (by first | (simp; done) | simp [outA_zero, sliceRows_zero]) (by first | (simp; done) | simp [outA_zero, sliceRows_zero]) (by first | (simp; done) | simp [outA_zero, sliceRows_zero]) (fun k => by first | (simp; done) | simp [outA_zero, sliceRows_zero]) (fun k => by first | (simp; done) | simp [outA_zero, sliceRows_zero]) (fun k => by first | (simp; done) | simp [outA_zero, sliceRows_zero]) ?_
    intro k hk st_ hst
    simp only [go_sem] at hst
    subst hst
    by_cases hlt : k < l.length
    · have h3 : (k : Int) < (l.length : Int) := by omega
      have ew := wrap1 k l.length hlt (by omega)
      have e := getD_map Pr.row l k hlt
      have er : l[k].row = [.str l[k].key, .int .i64 l[k].v.kind, .int .i64 l[k].v.n, .str l[k].v.s] := rfl
      have hlen := outA_len r l k
      have hlen2 := sliceRows_len r l k
      simp only [h3, e, er, go_sem]
      refine t_call_intro (containsV_den r hr l[k].key) ?_
      simp only [go_sem]
      first | refine t_case_dec (fun h4 => ?_) (fun h4 => ?_) | refine t_case_ndec (fun h4 => ?_) (fun h4 => ?_) | refine t_case_eqI (fun h4 => ?_) (fun h4 => ?_) | refine t_case_neI (fun h4 => ?_) (fun h4 => ?_) | refine t_case_not (fun h4 => ?_) (fun h4 => ?_) | refine t_case_intro (fun h4 => ?_) (fun h4 => ?_)
      · have e1 := outA_no r l k hlt h4
        have e2 := sliceRows_yes r l k hlt h4
        have e3 : (sliceRows r l (k + 1)).length = (sliceRows r l k).length + 1 := by rw [e2]; simp
        have ew2 : IntKind.i64.wrap (((sliceRows r l k).length : Int) + 1) = (((sliceRows r l (k + 1)).length : Nat) : Int) := by rw [e3, IntKind.wrap_i64]; omega
        simp only [ew, ew2, go_sem]
        refine t_roundO (k + 1) (by omega) (by omega) (by first | (simp; done) | simp [e1, e3]) (by first | (simp; done) | simp [e1, e3]) (by first | (simp; done) | simp [e1, e3]) (by first | (simp; done) | simp [e1, e3]) (by first | (simp; done) | simp [e1, e3])
      · have h4 : containsV r l[k].key = false := by simpa using h4
        have e1 := outA_yes r l k hlt h4
        have e2 := sliceRows_no r l k hlt h4
        have e3 : (sliceRows r l (k + 1)).length = (sliceRows r l k).length := by rw [e2]
        simp only [e, er, go_sem]
        refine t_gate_intro (by omega) ?_
        simp only [ew, e, er, go_sem]
        refine t_gate_intro (by omega) ?_
        simp only [ew, go_sem]
        refine t_roundO (k + 1) (by omega) (by omega) (by first | (simp; done) | simp [e1, e3]) (by first | (simp; done) | simp [e1, e3]) (by first | (simp; done) | simp [e1, e3]) (by first | (simp; done) | simp [e1, e3]) (by first | (simp; done) | simp [e1, e3])
    · have h3 : ¬ (k : Int) < (l.length : Int) := by omega
      have hke : k = l.length := by omega
      subst hke
      rw [outA_end, slice_end]
      have q1 : (((insL r l).length : Int) != ((insL r l).length : Int)) = false := by simp
      simp only [h3, go_sem]
      refine t_call_intro (hU1) ?_
      simp only [go_sem]
      refine t_call_intro (hU2) ?_
      simp only [q1, n0, go_sem]
      refine t_call_intro (hS) ?_
      simp only [go_sem]
      refine t_call_intro (hS) ?_
      simp only [go_sem]
      have hself := un_self hs.1
      by_cases h0 : 0 < l.length
      · rw [decide_eq_true h0] at hself
        have hT := uni_both l (by omega) fl hv hself
        have q2 : ((8 : Int) == 8) = true := by decide
        have q3 : (0 : Int) < (l.length : Int) := by omega
        refine t_call_intro (hT) ?_
        simp only [q2, q3, go_sem]
        refine t_call_intro (examples_den) ?_
        simp only [go_sem]
        simp only [aresult, ares, go_sem]
      · rw [decide_eq_false h0] at hself
        have hT := uni_none l (by omega) fl hv hself
        have q2 : ((0 : Int) == 8) = false := by decide
        have q3 : ¬ (0 : Int) < (l.length : Int) := by omega
        refine t_call_intro (hT) ?_
        simp only [q2, q3, go_sem]
        refine t_call_intro (examples_den) ?_
        simp only [go_sem]
        simp only [aresult, ares, go_sem]
  · have hv : stateV l = false := by simpa using hv
    have hV := stateV_den l (by omega) fl
    rw [hv] at hV
    refine den_of_body k_law06_StateSplits ⟨rfl, Nat.le_of_ble_eq_true rfl, thaw_intro ?_⟩
    unfold c_law06_StateSplits
    simp only [go_sem]
    refine t_call_intro (hV) ?_
    simp only [go_sem]
    refine t_call_intro (examples_den) ?_
    simp only [go_sem]
    simp only [aresult, ares, go_sem]
end Go.Proofs.Ytldonmombfpleaa
