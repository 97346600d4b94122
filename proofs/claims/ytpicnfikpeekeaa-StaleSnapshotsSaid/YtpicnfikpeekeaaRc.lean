/- Chapter 52: the reference's choice, and the lists of stores that can be read. -/
import Derived.Test.YtpicnfikpeekeaaRs
import Derived.Test.YtpicnfikpeekeaaStL
namespace Go.Proofs.Ytpicnfikpeekeaa
open Go Ab
attribute [local irreducible] awp aops aop asoft aeff aloop acall
attribute [local go_sem] Vl.row Ver.row Row.row Store.row

set_option maxRecDepth 100000 in
theorem rreadable_den (s : Store) (hs : s.fit) (at_ : Int) :
    PDen Try.prog 30 [.agg s.row, .a (.int .i64 at_)] (.a (.bool (readB s at_))) := by
  refine den_of_body k_ref52_readable ⟨rfl, Nat.le_of_ble_eq_true rfl, thaw_intro ?_⟩
  unfold c_ref52_readable
  simp only [go_sem]
  refine t_call_intro (rstoreV_den s hs) ?_
  simp only [go_sem]
  first | refine t_case_dec (fun h => ?_) (fun h => ?_) | refine t_case_ndec (fun h => ?_) (fun h => ?_) | refine t_case_eqI (fun h => ?_) (fun h => ?_) | refine t_case_neI (fun h => ?_) (fun h => ?_) | refine t_case_not (fun h => ?_) (fun h => ?_) | refine t_case_intro (fun h => ?_) (fun h => ?_)
  rotate_left
  · simp only [go_sem]
    simp only [aresult, ares, go_sem]
    simp [readB, h]
  simp only [go_sem]
  repeat' ((first | refine t_case_dec (fun hc => ?_) (fun hc => ?_) | refine t_case_ndec (fun hc => ?_) (fun hc => ?_) | refine t_case_eqI (fun hc => ?_) (fun hc => ?_) | refine t_case_neI (fun hc => ?_) (fun hc => ?_) | refine t_case_not (fun hc => ?_) (fun hc => ?_) | refine t_case_intro (fun hc => ?_) (fun hc => ?_)) <;> try simp only [go_sem])
  all_goals simp only [aresult, ares, go_sem]
  all_goals (congr 3; simp [readB, h]; try omega)

set_option maxRecDepth 100000 in
theorem rcandidate_den (s : Store) (hs : s.fit) (nw bd : Int) (hw : IntKind.i64.wrap (nw - bd) = nw - bd) :
    PDen Try.prog 29 [.agg s.row, .a (.int .i64 nw), .a (.int .i64 bd)] (.a (.bool (decide (nw - bd ≤ s.la) && readB s (least2 s.la nw)))) := by
  refine den_of_body k_ref52_candidate ⟨rfl, Nat.le_of_ble_eq_true rfl, thaw_intro ?_⟩
  unfold c_ref52_candidate
  simp only [hw, go_sem]
  first | refine t_case_dec (fun h => ?_) (fun h => ?_) | refine t_case_ndec (fun h => ?_) (fun h => ?_) | refine t_case_eqI (fun h => ?_) (fun h => ?_) | refine t_case_neI (fun h => ?_) (fun h => ?_) | refine t_case_not (fun h => ?_) (fun h => ?_) | refine t_case_intro (fun h => ?_) (fun h => ?_)
  rotate_left
  · simp only [go_sem]
    simp only [aresult, ares, go_sem]
    simp [h]
  simp only [go_sem]
  refine t_call_intro (rreadable_den s hs (least2 s.la nw)) ?_
  simp only [go_sem]
  simp only [aresult, ares, go_sem]
  simp [h]

theorem bestK_a (l : List Store) (nw bd : Int) (k : Nat) (hlt : k < l.length) (h : (decide (l[k].la < nw - bd) || !readB l[k] (least2 l[k].la nw)) = true) : bestK l nw bd (k + 1) = bestK l nw bd k := by
  simp only [bestK, List.getElem?_eq_getElem hlt]; rw [if_pos h]
theorem bestK_b (l : List Store) (nw bd : Int) (k : Nat) (hlt : k < l.length) (h : ¬ (decide (l[k].la < nw - bd) || !readB l[k] (least2 l[k].la nw)) = true) (h2 : bestK l nw bd k < 0) : bestK l nw bd (k + 1) = (k : Int) := by
  simp only [bestK, List.getElem?_eq_getElem hlt]; rw [if_neg h, if_pos h2]
theorem bestK_c (l : List Store) (nw bd : Int) (k j : Nat) (hlt : k < l.length) (h : ¬ (decide (l[k].la < nw - bd) || !readB l[k] (least2 l[k].la nw)) = true) (hj : j < l.length) (e : bestK l nw bd k = (j : Int)) : bestK l nw bd (k + 1) = if l[j].la < l[k].la then (k : Int) else (j : Int) := by
  simp only [bestK, List.getElem?_eq_getElem hlt]; rw [if_neg h, if_neg (by omega), e]; simp only [Int.toNat_natCast, List.getElem?_eq_getElem hj]

set_option maxRecDepth 100000 in
set_option maxHeartbeats 1000000 in
theorem rchoose_den (l : List Store) (nw bd : Int) (hl : l.length ≤ 9223372036854775807) (hf : ∀ s ∈ l, s.fit) (hbd : bd ≤ 9223372036854775807) :
    PDen Try.prog 11 [.a (.slice 3 (l.map Store.row)), .a (.int .i64 nw), .a (.int .i64 bd)] (chooseA l nw bd) := by
  refine den_of_body k_ref52_Choose ⟨rfl, Nat.le_of_ble_eq_true rfl, thaw_intro ?_⟩
  unfold c_ref52_Choose
  simp only [go_sem]
  first | refine t_case_dec (fun h => ?_) (fun h => ?_) | refine t_case_ndec (fun h => ?_) (fun h => ?_) | refine t_case_eqI (fun h => ?_) (fun h => ?_) | refine t_case_neI (fun h => ?_) (fun h => ?_) | refine t_case_not (fun h => ?_) (fun h => ?_) | refine t_case_intro (fun h => ?_) (fun h => ?_)
  · simp only [go_sem]
    simp only [aresult, ares, go_sem]
    rw [chooseA, if_pos (by omega)]
  simp only [go_sem]
  first | refine t_case_dec (fun h1 => ?_) (fun h1 => ?_) | refine t_case_ndec (fun h1 => ?_) (fun h1 => ?_) | refine t_case_eqI (fun h1 => ?_) (fun h1 => ?_) | refine t_case_neI (fun h1 => ?_) (fun h1 => ?_) | refine t_case_not (fun h1 => ?_) (fun h1 => ?_) | refine t_case_intro (fun h1 => ?_) (fun h1 => ?_)
  · simp only [go_sem]
    simp only [aresult, ares, go_sem]
    rw [chooseA, if_pos (by omega)]
  simp only [go_sem]
  first | refine t_case_dec (fun h2 => ?_) (fun h2 => ?_) | refine t_case_ndec (fun h2 => ?_) (fun h2 => ?_) | refine t_case_eqI (fun h2 => ?_) (fun h2 => ?_) | refine t_case_neI (fun h2 => ?_) (fun h2 => ?_) | refine t_case_not (fun h2 => ?_) (fun h2 => ?_) | refine t_case_intro (fun h2 => ?_) (fun h2 => ?_)
  · simp only [go_sem]
    simp only [aresult, ares, go_sem]
    rw [chooseA, if_pos (by omega)]
  have hnp : ¬ (nw < 0 ∨ 1099511627776 < nw ∨ bd < 0) := by omega
  have hw : IntKind.i64.wrap (nw - bd) = nw - bd := by rw [IntKind.wrap_i64]; omega
  simp only [go_sem]
  refine t_loop_intro (fun k : Nat => k ≤ l.length) (fun k => l.length - k) 0 [9, 10, 21, 22, 23, 24, 25, 26, 27, 28, 29, 30, 31, 32, 33, 34, 35, 36, 37, 38, 39, 40, 41, 42, 43, 44, 45, 46, 47, 48, 49, 50, 51] (fun k => [(9, .a (.int .i64 (bestK l nw bd k))), (10, .a (.int .i64 k))]) (by omega) (by first | (simp; done) | simp [bestK]) (fun k => by simp) rfl ?_
  intro k hk fr_ hfr
  simp only [go_sem] at hfr
  subst hfr
  by_cases hlt : k < l.length
  · have h3 : (k : Int) < (l.length : Int) := by omega
    have ew := wrap1 k l.length hlt hl
    have e := getD_map Store.row l k hlt
    have hfk := hf _ (List.getElem_mem hlt)
    simp only [h3, e, go_sem]
    refine t_call_intro (rcandidate_den l[k] hfk nw bd hw) ?_
    simp only [go_sem]
    first | refine t_case_dec (fun h4 => ?_) (fun h4 => ?_) | refine t_case_ndec (fun h4 => ?_) (fun h4 => ?_) | refine t_case_eqI (fun h4 => ?_) (fun h4 => ?_) | refine t_case_neI (fun h4 => ?_) (fun h4 => ?_) | refine t_case_not (fun h4 => ?_) (fun h4 => ?_) | refine t_case_intro (fun h4 => ?_) (fun h4 => ?_)
    rotate_left
    · have eb : bestK l nw bd (k + 1) = bestK l nw bd k := by
        refine bestK_a l nw bd k hlt ?_
        rcases Bool.and_eq_false_iff.1 h4 with h | h
        · have : l[k].la < nw - bd := by simpa using h
          simp [this]
        · simp [h]
      simp only [ew, go_sem]
      refine t_round (k + 1) (by omega) (by omega) (by first | (simp; done) | simp [eb]) rfl rfl (by simp) rfl
    have hr : ¬ (decide (l[k].la < nw - bd) || !readB l[k] (least2 l[k].la nw)) = true := by
      simp at h4; simp [h4]
    simp only [go_sem]
    first | refine t_case_dec (fun h7 => ?_) (fun h7 => ?_) | refine t_case_ndec (fun h7 => ?_) (fun h7 => ?_) | refine t_case_eqI (fun h7 => ?_) (fun h7 => ?_) | refine t_case_neI (fun h7 => ?_) (fun h7 => ?_) | refine t_case_not (fun h7 => ?_) (fun h7 => ?_) | refine t_case_intro (fun h7 => ?_) (fun h7 => ?_)
    · have eb : bestK l nw bd (k + 1) = (k : Int) := bestK_b l nw bd k hlt hr h7
      simp only [ew, go_sem]
      refine t_round (k + 1) (by omega) (by omega) (by first | (simp; done) | simp [eb]) rfl rfl (by simp) rfl
    obtain ⟨j, hj, ej⟩ : ∃ j : Nat, j < k ∧ bestK l nw bd k = (j : Int) := by
      rcases bestK_cases l nw bd k with h | h
      · rw [h] at h7; simp at h7
      · exact h
    have hjl : j < l.length := by omega
    have h8 : (j : Int) < (l.length : Int) := by omega
    have e1 := getD_map Store.row l j hjl
    have hs2 : bestK l nw bd (k + 1) = if l[j].la < l[k].la then (k : Int) else (j : Int) := bestK_c l nw bd k j hlt hr hjl ej
    simp only [h3, e, ej, h8, e1, go_sem]
    first | refine t_case_dec (fun h9 => ?_) (fun h9 => ?_) | refine t_case_ndec (fun h9 => ?_) (fun h9 => ?_) | refine t_case_eqI (fun h9 => ?_) (fun h9 => ?_) | refine t_case_neI (fun h9 => ?_) (fun h9 => ?_) | refine t_case_not (fun h9 => ?_) (fun h9 => ?_) | refine t_case_intro (fun h9 => ?_) (fun h9 => ?_)
    · have eb : bestK l nw bd (k + 1) = (k : Int) := by rw [hs2, if_pos h9]
      simp only [ew, go_sem]
      refine t_round (k + 1) (by omega) (by omega) (by first | (simp; done) | simp [eb]) rfl rfl (by simp) rfl
    · have eb : bestK l nw bd (k + 1) = (j : Int) := by rw [hs2, if_neg h9]
      simp only [ew, go_sem]
      refine t_round (k + 1) (by omega) (by omega) (by first | (simp; done) | simp [eb]) rfl rfl (by simp) rfl
  · have h3 : ¬ (k : Int) < (l.length : Int) := by omega
    have hke : k = l.length := by omega
    simp only [h3, go_sem]
    first | refine t_case_dec (fun h7 => ?_) (fun h7 => ?_) | refine t_case_ndec (fun h7 => ?_) (fun h7 => ?_) | refine t_case_eqI (fun h7 => ?_) (fun h7 => ?_) | refine t_case_neI (fun h7 => ?_) (fun h7 => ?_) | refine t_case_not (fun h7 => ?_) (fun h7 => ?_) | refine t_case_intro (fun h7 => ?_) (fun h7 => ?_)
    · simp only [go_sem]
      simp only [aresult, ares, go_sem]
      rw [chooseA, if_neg hnp, ← hke]
      split
      · rfl
      · rw [if_pos h7]
    · obtain ⟨j, hj, ej⟩ : ∃ j : Nat, j < k ∧ bestK l nw bd k = (j : Int) := by
        rcases bestK_cases l nw bd k with h | h
        · rw [h] at h7; simp at h7
        · exact h
      have hjl : j < l.length := by omega
      have h8 : (j : Int) < (l.length : Int) := by omega
      have e1 := getD_map Store.row l j hjl
      simp only [ej, h8, e1, go_sem]
      simp only [aresult, ares, go_sem]
      rw [chooseA, if_neg hnp, ← hke, ej]
      simp [hjl, least2]

/-! Lists of numbers -/
def idxs (p : Nat → Bool) (k : Nat) : List Nat := (List.range k).filter p
def idxRows (p : Nat → Bool) (k : Nat) : List (List Atom) := (idxs p k).map fun i : Nat => [Atom.int .i64 (i : Int)]
theorem idxRows_zero (p : Nat → Bool) : idxRows p 0 = [] := rfl
theorem idxRows_yes (p : Nat → Bool) (k : Nat) (h : p k = true) : idxRows p (k + 1) = idxRows p k ++ [[Atom.int .i64 (k : Int)]] := by
  simp [idxRows, idxs, List.range_succ, h]
theorem idxRows_no (p : Nat → Bool) (k : Nat) (h : p k = false) : idxRows p (k + 1) = idxRows p k := by
  simp [idxRows, idxs, List.range_succ, h]
theorem idxRows_len (p : Nat → Bool) (k : Nat) : (idxRows p k).length ≤ k := by
  have := List.length_filter_le p (List.range k)
  simp [idxRows, idxs] at *; exact this
def canB (l : List Store) (at_ : Int) (i : Nat) : Bool := match l[i]? with | none => false | some s => readB s at_

set_option maxRecDepth 100000 in
set_option maxHeartbeats 1000000 in
theorem avail_den (l : List Store) (at_ : Int) (hl : l.length * 40 ≤ 140737488351232) (hf : ∀ s ∈ l, s.fit) :
    PDen Try.prog 12 [.a (.slice 3 (l.map Store.row)), .a (.int .i64 at_)] (.a (.slice 1 (idxRows (canB l at_) l.length))) := by
  refine den_of_body k_stale_Available ⟨rfl, Nat.le_of_ble_eq_true rfl, thaw_intro ?_⟩
  unfold c_stale_Available
  simp only [go_sem]
  refine t_loopO_intro [.slot 5 3 1] (fun k : Nat => k ≤ l.length) (fun k => l.length - k) 0 [5, 6, 7, 10, 11, 12, 13, 14, 15, 16, 17, 18, 19, 20, 21, 22] (fun k => [(5, .own 0), (10, .a (.int .i64 k))]) (fun k => []) (fun k => [⟨3, 1, idxRows (canB l at_) k⟩]) (by omega) (by simp) (by first | (simp; done) | simp [idxRows_zero]) (by first | (simp; done) | simp [idxRows_zero]) (by first | (simp; done) | simp [idxRows_zero]) (fun k => by first | (simp; done) | simp [idxRows_zero]) (fun k => by first | (simp; done) | simp [idxRows_zero]) ?_
  intro k hk st_ hst
  simp only [go_sem] at hst
  subst hst
  by_cases hlt : k < l.length
  · have h3 : (k : Int) < (l.length : Int) := by omega
    have ew := wrap1 k l.length hlt (by omega)
    have e := getD_map Store.row l k hlt
    have hfk := hf _ (List.getElem_mem hlt)
    have hlen := idxRows_len (canB l at_) k
    have ec : canB l at_ k = readB l[k] at_ := by simp [canB, hlt]
    simp only [h3, e, go_sem]
    refine t_call_intro (readable_den l[k] hfk at_) ?_
    simp only [go_sem]
    first | refine t_case_dec (fun h4 => ?_) (fun h4 => ?_) | refine t_case_ndec (fun h4 => ?_) (fun h4 => ?_) | refine t_case_eqI (fun h4 => ?_) (fun h4 => ?_) | refine t_case_neI (fun h4 => ?_) (fun h4 => ?_) | refine t_case_not (fun h4 => ?_) (fun h4 => ?_) | refine t_case_intro (fun h4 => ?_) (fun h4 => ?_)
    · simp only [go_sem]
      refine t_gate_intro (by omega) ?_
      simp only [ew, go_sem]
      refine t_roundO (k + 1) (by omega) (by omega) (by first | (simp; done) | simp [idxRows_yes _ _ (ec.trans h4)]) (by first | (simp; done) | simp [idxRows_yes _ _ (ec.trans h4)]) (by first | (simp; done) | simp [idxRows_yes _ _ (ec.trans h4)]) (by first | (simp; done) | simp [idxRows_yes _ _ (ec.trans h4)]) (by first | (simp; done) | simp [idxRows_yes _ _ (ec.trans h4)])
    · simp only [ew, go_sem]
      refine t_roundO (k + 1) (by omega) (by omega) (by first | (simp; done) | simp [idxRows_no _ _ (ec.trans h4)]) (by first | (simp; done) | simp [idxRows_no _ _ (ec.trans h4)]) (by first | (simp; done) | simp [idxRows_no _ _ (ec.trans h4)]) (by first | (simp; done) | simp [idxRows_no _ _ (ec.trans h4)]) (by first | (simp; done) | simp [idxRows_no _ _ (ec.trans h4)])
  · have h3 : ¬ (k : Int) < (l.length : Int) := by omega
    have hke : k = l.length := by omega
    subst hke
    simp only [h3, go_sem]
    simp only [aresult, ares, go_sem]

set_option maxRecDepth 100000 in
set_option maxHeartbeats 1000000 in
theorem ravail_den (l : List Store) (at_ : Int) (hl : l.length * 40 ≤ 140737488351232) (hf : ∀ s ∈ l, s.fit) :
    PDen Try.prog 13 [.a (.slice 3 (l.map Store.row)), .a (.int .i64 at_)] (.a (.slice 1 (idxRows (canB l at_) l.length))) := by
  refine den_of_body k_ref52_Available ⟨rfl, Nat.le_of_ble_eq_true rfl, thaw_intro ?_⟩
  unfold c_ref52_Available
  simp only [go_sem]
  refine t_loopO_intro [.slot 5 3 1] (fun k : Nat => k ≤ l.length) (fun k => l.length - k) 0 [5, 6, 7, 8, 9, 10, 11, 12, 13, 14, 15, 16, 17, 18, 19, 20, 21, 22] (fun k => [(5, .own 0), (6, .a (.int .i64 k))]) (fun k => []) (fun k => [⟨3, 1, idxRows (canB l at_) k⟩]) (by omega) (by simp) (by first | (simp; done) | simp [idxRows_zero]) (by first | (simp; done) | simp [idxRows_zero]) (by first | (simp; done) | simp [idxRows_zero]) (fun k => by first | (simp; done) | simp [idxRows_zero]) (fun k => by first | (simp; done) | simp [idxRows_zero]) ?_
  intro k hk st_ hst
  simp only [go_sem] at hst
  subst hst
  by_cases hlt : k < l.length
  · have h3 : (k : Int) < (l.length : Int) := by omega
    have ew := wrap1 k l.length hlt (by omega)
    have e := getD_map Store.row l k hlt
    have hfk := hf _ (List.getElem_mem hlt)
    have hlen := idxRows_len (canB l at_) k
    have ec : canB l at_ k = readB l[k] at_ := by simp [canB, hlt]
    simp only [h3, e, go_sem]
    refine t_call_intro (rreadable_den l[k] hfk at_) ?_
    simp only [go_sem]
    first | refine t_case_dec (fun h4 => ?_) (fun h4 => ?_) | refine t_case_ndec (fun h4 => ?_) (fun h4 => ?_) | refine t_case_eqI (fun h4 => ?_) (fun h4 => ?_) | refine t_case_neI (fun h4 => ?_) (fun h4 => ?_) | refine t_case_not (fun h4 => ?_) (fun h4 => ?_) | refine t_case_intro (fun h4 => ?_) (fun h4 => ?_)
    · simp only [go_sem]
      refine t_gate_intro (by omega) ?_
      simp only [ew, go_sem]
      refine t_roundO (k + 1) (by omega) (by omega) (by first | (simp; done) | simp [idxRows_yes _ _ (ec.trans h4)]) (by first | (simp; done) | simp [idxRows_yes _ _ (ec.trans h4)]) (by first | (simp; done) | simp [idxRows_yes _ _ (ec.trans h4)]) (by first | (simp; done) | simp [idxRows_yes _ _ (ec.trans h4)]) (by first | (simp; done) | simp [idxRows_yes _ _ (ec.trans h4)])
    · simp only [ew, go_sem]
      refine t_roundO (k + 1) (by omega) (by omega) (by first | (simp; done) | simp [idxRows_no _ _ (ec.trans h4)]) (by first | (simp; done) | simp [idxRows_no _ _ (ec.trans h4)]) (by first | (simp; done) | simp [idxRows_no _ _ (ec.trans h4)]) (by first | (simp; done) | simp [idxRows_no _ _ (ec.trans h4)]) (by first | (simp; done) | simp [idxRows_no _ _ (ec.trans h4)])
  · have h3 : ¬ (k : Int) < (l.length : Int) := by omega
    have hke : k = l.length := by omega
    subst hke
    simp only [h3, go_sem]
    simp only [aresult, ares, go_sem]

theorem chooseA_tup (l : List Store) (nw bd : Int) : ∃ a b c : Int, chooseA l nw bd = .tup [.a (.int .i64 a), .a (.int .i64 b), .a (.int .i64 c)] := by
  unfold chooseA
  split
  · exact ⟨_, _, _, rfl⟩
  · split
    · exact ⟨_, _, _, rfl⟩
    · split <;> exact ⟨_, _, _, rfl⟩

set_option maxRecDepth 100000 in
set_option maxHeartbeats 1000000 in
theorem chooses_den (l : List Store) (nw bd : Int) (hl : l.length * 40 ≤ 140737488351232) (hf : ∀ s ∈ l, s.fit) (hbd : bd ≤ 9223372036854775807) :
    PDen Try.prog 4 [.a (.slice 3 (l.map Store.row)), .a (.int .i64 nw), .a (.int .i64 bd)] (.a (.bool true)) := by
  refine den_of_body k_law52_StaleChooses ⟨rfl, Nat.le_of_ble_eq_true rfl, thaw_intro ?_⟩
  unfold c_law52_StaleChooses
  simp only [go_sem]
  refine t_call_intro (choose_den l nw bd (by omega) hf hbd) ?_
  obtain ⟨a, b, c, ea⟩ := chooseA_tup l nw bd
  rw [ea]
  simp only [go_sem]
  refine t_call_intro (ea ▸ rchoose_den l nw bd (by omega) hf hbd) ?_
  simp only [beq_self_eq_true, bne_self_eq_false, go_sem]
  refine t_call_intro (avail_den l nw hl hf) ?_
  simp only [go_sem]
  refine t_call_intro (ravail_den l nw hl hf) ?_
  have hlen := idxRows_len (canB l nw) l.length
  unfold idxRows at hlen ⊢
  generalize idxs (canB l nw) l.length = L at *
  rw [List.length_map] at hlen
  simp only [bne_self_eq_false, go_sem]
  refine t_loop_intro (fun k : Nat => k ≤ L.length) (fun k => L.length - k) 0 [6, 15, 56, 57, 58, 59, 60, 61, 62, 63, 64, 65, 66, 67, 68, 69, 70] (fun k => [(15, .a (.int .i64 k))]) (by omega) (by simp) (fun k => by simp) rfl ?_
  intro k hk fr_ hfr
  simp only [go_sem] at hfr
  subst hfr
  by_cases hlt : k < L.length
  · have h3 : (k : Int) < (L.length : Int) := by omega
    have ew := wrap1 k L.length hlt (by omega)
    have e := getD_map (fun i : Nat => [Atom.int .i64 (i : Int)]) L k hlt
    simp only [h3, e, bne_self_eq_false, ew, go_sem]
    refine t_round (k + 1) (by omega) (by omega) (by simp) rfl rfl (by simp) rfl
  · have h3 : ¬ (k : Int) < (L.length : Int) := by omega
    simp only [h3, go_sem]
    refine t_call_intro (examples_den) ?_
    simp only [go_sem]
    simp only [aresult, ares, go_sem]
end Go.Proofs.Ytpicnfikpeekeaa
