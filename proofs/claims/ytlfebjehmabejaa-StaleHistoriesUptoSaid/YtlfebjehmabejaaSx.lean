/- The package stale: which store is read. -/
import Derived.Test.YtlfebjehmabejaaMv
import Derived.Test.YtlfebjehmabejaaAbP
import Derived.Test.YtlfebjehmabejaaRs
import Derived.Test.YtlfebjehmabejaaRe
import Derived.Test.YtlfebjehmabejaaMg
set_option linter.unusedSimpArgs false
set_option linter.unusedVariables false

set_option linter.unusedSimpArgs false
set_option linter.unusedVariables false
namespace Go.Proofs.Ytlfebjehmabejaa
open Go Ab
attribute [local irreducible] awp aops aop asoft aeff aloop acall

def readB (s : Store) (at_ : Int) : Bool := storeV s && (decide (s.fl ≤ at_) && decide (at_ ≤ s.la))

set_option maxRecDepth 100000 in
theorem readable_den (s : Store) (hs : s.fit) (at_ : Int) :
    PDen Try.prog 48 [.agg s.row, .a (.int .i64 at_)] (.a (.bool (readB s at_))) := by
  refine den_of_body k_stale_readable ⟨rfl, Nat.le_of_ble_eq_true rfl, thaw_intro ?_⟩
  have er : s.row = [.int .i64 s.fl, .int .i64 s.la, .slice 2 (s.rows.map Row.row)] := rfl
  unfold c_stale_readable
  simp only [er, go_sem]
  refine t_call_intro (storeV_den s hs) ?_
  simp only [go_sem]
  refine t_case_intro (fun h => ?_) (fun h => ?_)
  · simp only [go_sem]
    refine t_case_intro (fun h1 => ?_) (fun h1 => ?_)
    · simp only [go_sem]
      simp only [aresult, ares, go_sem]
      simp at h h1
      simp [readB, h, h1]
    · simp only [go_sem]
      simp only [aresult, ares, go_sem]
      simp at h h1
      simp [readB, h]; omega
  · simp only [go_sem]
    simp only [aresult, ares, go_sem]
    simp [readB, h]

def least2 (a b : Int) : Int := if b < a then b else a

set_option maxRecDepth 100000 in
theorem least_den (a b : Int) :
    PDen Try.prog 64 [.a (.int .i64 a), .a (.slice 1 [[.int .i64 b]])] (.a (.int .i64 (least2 a b))) := by
  refine den_of_body k_stale_least ⟨rfl, Nat.le_of_ble_eq_true rfl, thaw_intro ?_⟩
  unfold c_stale_least
  simp only [List.length_cons, List.length_nil, go_sem]
  refine t_loop_intro (fun k : Nat => k ≤ 1) (fun k => 1 - k) 0 [0, 6, 9, 10, 11, 12, 13, 14, 15, 16, 17] (fun k => [(0, .a (.int .i64 (if k = 0 then a else least2 a b))), (9, .a (.int .i64 k))]) (by omega) (by simp) (fun k => by simp) rfl ?_
  intro k hk fr' hfr
  simp only [go_sem] at hfr
  subst hfr
  by_cases hlt : k = 0
  · subst hlt
    have ew := wrap1 0 1 (by omega) (by omega)
    have h1 : ((0 : Nat) : Int) < ((0 + 1 : Nat) : Int) := by omega
    have e : ([[Atom.int .i64 b]] : List (List Atom)).getD 0 [] = [.int .i64 b] := rfl
    simp only [h1, e, List.length_cons, List.length_nil, if_true, go_sem]
    refine t_case_intro (fun h2 => ?_) (fun h2 => ?_)
    · simp only [ew, go_sem]
      have e2 : least2 a b = b := by simp at h2; simp [least2, h2]
      exact ⟨1, by omega, by omega, by simp [e2], rfl, rfl, by simp, rfl⟩
    · simp only [ew, go_sem]
      have e2 : least2 a b = a := by simp at h2; simp [least2]; omega
      exact ⟨1, by omega, by omega, by simp [e2], rfl, rfl, by simp, rfl⟩
  · have hk1 : k = 1 := by omega
    subst hk1
    have h1 : ¬ ((1 : Nat) : Int) < ((0 + 1 : Nat) : Int) := by omega
    simp only [h1, go_sem]
    simp only [aresult, ares, go_sem]

def bestK (l : List Store) (nw bd : Int) : Nat → Int
  | 0 => -1
  | k + 1 => match l[k]? with
    | none => bestK l nw bd k
    | some s => if s.la < nw - bd || !readB s (least2 s.la nw) then bestK l nw bd k
      else if bestK l nw bd k < 0 then (k : Int) else match l[(bestK l nw bd k).toNat]? with
        | none => bestK l nw bd k
        | some t => if t.la < s.la then (k : Int) else bestK l nw bd k
theorem bestK_cases (l : List Store) (nw bd : Int) (k : Nat) : bestK l nw bd k = -1 ∨ ∃ j : Nat, j < k ∧ bestK l nw bd k = (j : Int) := by
  induction k with
  | zero => exact Or.inl rfl
  | succ k ih =>
    have hw : bestK l nw bd k = -1 ∨ ∃ j : Nat, j < k + 1 ∧ bestK l nw bd k = (j : Int) := by
      rcases ih with h | ⟨j, hj, h⟩
      · exact Or.inl h
      · exact Or.inr ⟨j, by omega, h⟩
    unfold bestK
    split
    · exact hw
    · split
      · exact hw
      · split
        · exact Or.inr ⟨k, by omega, rfl⟩
        · split
          · exact hw
          · split
            · exact Or.inr ⟨k, by omega, rfl⟩
            · exact hw
def chooseA (l : List Store) (nw bd : Int) : AV :=
  if nw < 0 ∨ 1099511627776 < nw ∨ bd < 0 then .tup [.a (.int .i64 0), .a (.int .i64 0), .a (.int .i64 1)]
  else match l[(bestK l nw bd l.length).toNat]? with
    | none => .tup [.a (.int .i64 0), .a (.int .i64 0), .a (.int .i64 15)]
    | some s => if bestK l nw bd l.length < 0 then .tup [.a (.int .i64 0), .a (.int .i64 0), .a (.int .i64 15)]
      else .tup [.a (.int .i64 (bestK l nw bd l.length)), .a (.int .i64 (least2 s.la nw)), .a (.int .i64 0)]

set_option maxRecDepth 100000 in
set_option maxHeartbeats 1000000 in
theorem choose_den (l : List Store) (nw bd : Int) (hl : l.length ≤ 9223372036854775807) (hf : ∀ s ∈ l, s.fit) (hbd : bd ≤ 9223372036854775807) :
    PDen Try.prog 46 [.a (.slice 3 (l.map Store.row)), .a (.int .i64 nw), .a (.int .i64 bd)] (chooseA l nw bd) := by
  refine den_of_body k_stale_Choose ⟨rfl, Nat.le_of_ble_eq_true rfl, thaw_intro ?_⟩
  unfold c_stale_Choose
  simp only [go_sem]
  refine t_case_intro (fun h => ?_) (fun h => ?_)
  rotate_left
  · simp only [go_sem]
    simp only [aresult, ares, go_sem]
    rw [chooseA, if_pos (by simp at h; omega)]
  · simp only [go_sem]
    refine t_case_intro (fun h1 => ?_) (fun h1 => ?_)
    rotate_left
    · simp only [go_sem]
      simp only [aresult, ares, go_sem]
      rw [chooseA, if_pos (by simp at h1; omega)]
    · simp only [go_sem]
      refine t_case_intro (fun h2 => ?_) (fun h2 => ?_)
      · simp only [go_sem]
        simp only [aresult, ares, go_sem]
        rw [chooseA, if_pos (by simp at h2; omega)]
      · have hnp : ¬ (nw < 0 ∨ 1099511627776 < nw ∨ bd < 0) := by simp at h h1 h2; omega
        have hw : IntKind.i64.wrap (nw - bd) = nw - bd := by rw [IntKind.wrap_i64]; omega
        simp only [go_sem]
        refine t_loop_intro (fun k : Nat => k ≤ l.length) (fun k => l.length - k) 0 [9, 10, 11, 24, 25, 26, 27, 28, 29, 30, 31, 32, 33, 34, 35, 36, 37, 38, 39, 40, 41, 42, 43, 44, 45, 46, 47, 48, 49, 50, 51, 52, 53, 54, 55, 56, 57, 58] (fun k => [(9, .a (.int .i64 (bestK l nw bd k))), (24, .a (.int .i64 k))]) (by omega) (by simp [bestK]) (fun k => by simp) rfl ?_
        intro k hk fr' hfr
        simp only [go_sem] at hfr
        subst hfr
        by_cases hlt : k < l.length
        · have h3 : (k : Int) < (l.length : Int) := by omega
          have ew := wrap1 k l.length hlt hl
          have e := getD_map Store.row l k hlt
          have er : l[k].row = [.int .i64 l[k].fl, .int .i64 l[k].la, .slice 2 (l[k].rows.map Row.row)] := rfl
          have hfk := hf _ (List.getElem_mem hlt)
          have hstep : bestK l nw bd (k + 1) = if l[k].la < nw - bd || !readB l[k] (least2 l[k].la nw) then bestK l nw bd k
            else if bestK l nw bd k < 0 then (k : Int) else match l[(bestK l nw bd k).toNat]? with
              | none => bestK l nw bd k
              | some t => if t.la < l[k].la then (k : Int) else bestK l nw bd k := by
            simp [bestK, hlt]
          simp only [h3, e, er, hw, go_sem]
          refine t_case_intro (fun h4 => ?_) (fun h4 => ?_)
          · simp only [go_sem]
            refine t_call_intro (least_den l[k].la nw) ?_
            simp only [go_sem]
            refine t_call_intro (readable_den l[k] hfk (least2 l[k].la nw)) ?_
            simp only [go_sem]
            refine t_case_intro (fun h5 => ?_) (fun h5 => ?_)
            · have eb : bestK l nw bd (k + 1) = bestK l nw bd k := by rw [hstep, if_pos (by simp at h5; simp [h5])]
              simp only [ew, go_sem]
              refine t_round (k + 1) (by omega) (by omega) (by simp [eb]) rfl rfl (by simp) rfl
            · have hr : ¬ (decide (l[k].la < nw - bd) || !readB l[k] (least2 l[k].la nw)) = true := by simp at h4 h5; simp [h5]; omega
              simp only [go_sem]
              refine t_case_intro (fun h7 => ?_) (fun h7 => ?_)
              rotate_left
              · have eb : bestK l nw bd (k + 1) = (k : Int) := by rw [hstep, if_neg hr, if_pos (by simp at h7; omega)]
                simp only [ew, go_sem]
                refine t_round (k + 1) (by omega) (by omega) (by simp [eb]) rfl rfl (by simp) rfl
              · have h7' : ¬ bestK l nw bd k < 0 := by simp at h7; omega
                obtain ⟨j, hj, ej⟩ : ∃ j : Nat, j < k ∧ bestK l nw bd k = (j : Int) := by
                  rcases bestK_cases l nw bd k with h | h
                  · rw [h] at h7'; simp at h7'
                  · exact h
                have hjl : j < l.length := by omega
                have h8 : (j : Int) < (l.length : Int) := by omega
                have e1 := getD_map Store.row l j hjl
                have er1 : l[j].row = [.int .i64 l[j].fl, .int .i64 l[j].la, .slice 2 (l[j].rows.map Row.row)] := rfl
                have hs2 : bestK l nw bd (k + 1) = if l[j].la < l[k].la then (k : Int) else (j : Int) := by
                  rw [hstep, if_neg hr, if_neg h7', ej]; simp [hjl]
                simp only [ej, h8, e1, er1, go_sem]
                refine t_case_intro (fun h9 => ?_) (fun h9 => ?_)
                · have eb : bestK l nw bd (k + 1) = (k : Int) := by rw [hs2, if_pos (by simpa using h9)]
                  simp only [ew, go_sem]
                  refine t_round (k + 1) (by omega) (by omega) (by simp [eb]) rfl rfl (by simp) rfl
                · have eb : bestK l nw bd (k + 1) = (j : Int) := by rw [hs2, if_neg (by simpa using h9)]
                  simp only [ew, go_sem]
                  refine t_round (k + 1) (by omega) (by omega) (by simp [eb]) rfl rfl (by simp) rfl
          · have eb : bestK l nw bd (k + 1) = bestK l nw bd k := by rw [hstep, if_pos (by simp at h4; simp [h4])]
            simp only [ew, go_sem]
            refine t_round (k + 1) (by omega) (by omega) (by simp [eb]) rfl rfl (by simp) rfl
        · have h3 : ¬ (k : Int) < (l.length : Int) := by omega
          have hke : k = l.length := by omega
          simp only [h3, go_sem]
          refine t_case_intro (fun h7 => ?_) (fun h7 => ?_)
          · simp only [go_sem]
            simp only [aresult, ares, go_sem]
            rw [chooseA, if_neg hnp, ← hke]
            split
            · rfl
            · rw [if_pos (by simpa using h7)]
          · have h7' : ¬ bestK l nw bd k < 0 := by simp at h7; omega
            obtain ⟨j, hj, ej⟩ : ∃ j : Nat, j < k ∧ bestK l nw bd k = (j : Int) := by
              rcases bestK_cases l nw bd k with h | h
              · rw [h] at h7'; simp at h7'
              · exact h
            have hjl : j < l.length := by omega
            have h8 : (j : Int) < (l.length : Int) := by omega
            have e1 := getD_map Store.row l j hjl
            have er1 : l[j].row = [.int .i64 l[j].fl, .int .i64 l[j].la, .slice 2 (l[j].rows.map Row.row)] := rfl
            simp only [ej, h8, e1, er1, go_sem]
            refine t_call_intro (least_den l[j].la nw) ?_
            simp only [go_sem]
            simp only [aresult, ares, go_sem]
            rw [chooseA, if_neg hnp, ← hke, ej]
            simp [hjl]
end Go.Proofs.Ytlfebjehmabejaa

/- Chapter 52: the example. -/
set_option linter.unusedSimpArgs false
set_option linter.unusedVariables false
namespace Go.Proofs.Ytlfebjehmabejaa
open Go Ab
attribute [local irreducible] awp aops aop asoft aeff aloop acall

def exL : List Store := [⟨0, 5, []⟩, ⟨0, 8, []⟩]
theorem ex_fit : ∀ s ∈ exL, s.fit := by
  intro s hs
  simp [exL] at hs
  rcases hs with rfl | rfl <;> exact ⟨by simp, by simp⟩
theorem ex_choose (nw bd : Int) (hbd : bd ≤ 9223372036854775807) : PDen Try.prog 46 [.a (.slice 3 [[.int .i64 0, .int .i64 5, .nils], [.int .i64 0, .int .i64 8, .nils]]), .a (.int .i64 nw), .a (.int .i64 bd)] (chooseA exL nw bd) := by
  refine PDen.head (choose_den exL nw bd (by decide) ex_fit hbd) (RLe.slice ?_)
  exact ⟨⟨RLe.refl _, RLe.refl _, RLe.nils 2, trivial⟩, ⟨RLe.refl _, RLe.refl _, RLe.nils 2, trivial⟩, trivial⟩
theorem stex1 : chooseA exL 7 2 = .tup [.a (.int .i64 1), .a (.int .i64 7), .a (.int .i64 0)] := by
  rfl
theorem stex2 : chooseA exL 10 1 = .tup [.a (.int .i64 0), .a (.int .i64 0), .a (.int .i64 15)] := by
  rfl

set_option maxRecDepth 100000 in
theorem examples_den : PDen Try.prog 18 [] (.a (.bool true)) := by
  refine den_of_body k_law52_examples ⟨rfl, Nat.le_of_ble_eq_true rfl, thaw_intro ?_⟩
  unfold c_law52_examples
  simp only [go_sem]
  refine t_call_intro (ex_choose 7 2 (by omega)) ?_
  rw [stex1]
  simp only [go_sem]
  refine t_call_intro (ex_choose 10 1 (by omega)) ?_
  rw [stex2]
  simp only [beq_self_eq_true, go_sem]
  simp only [aresult, ares, go_sem]
end Go.Proofs.Ytlfebjehmabejaa

/- Chapter 52: the reference's choice, and the lists of stores that can be read. -/
set_option linter.unusedSimpArgs false
set_option linter.unusedVariables false
namespace Go.Proofs.Ytlfebjehmabejaa
open Go Ab
attribute [local irreducible] awp aops aop asoft aeff aloop acall
attribute [local go_sem] Vl.row Ver.row Row.row Store.row

theorem bestK_a (l : List Store) (nw bd : Int) (k : Nat) (hlt : k < l.length) (h : (decide (l[k].la < nw - bd) || !readB l[k] (least2 l[k].la nw)) = true) : bestK l nw bd (k + 1) = bestK l nw bd k := by
  simp only [bestK, List.getElem?_eq_getElem hlt]; rw [if_pos h]
theorem bestK_b (l : List Store) (nw bd : Int) (k : Nat) (hlt : k < l.length) (h : ¬ (decide (l[k].la < nw - bd) || !readB l[k] (least2 l[k].la nw)) = true) (h2 : bestK l nw bd k < 0) : bestK l nw bd (k + 1) = (k : Int) := by
  simp only [bestK, List.getElem?_eq_getElem hlt]; rw [if_neg h, if_pos h2]
theorem bestK_c (l : List Store) (nw bd : Int) (k j : Nat) (hlt : k < l.length) (h : ¬ (decide (l[k].la < nw - bd) || !readB l[k] (least2 l[k].la nw)) = true) (hj : j < l.length) (e : bestK l nw bd k = (j : Int)) : bestK l nw bd (k + 1) = if l[j].la < l[k].la then (k : Int) else (j : Int) := by
  simp only [bestK, List.getElem?_eq_getElem hlt]; rw [if_neg h, if_neg (by omega), e]; simp only [Int.toNat_natCast, List.getElem?_eq_getElem hj]

/-! Lists of numbers -/
def idxs (p : Nat → Bool) (k : Nat) : List Nat := (List.range k).filter p
def idxRows (p : Nat → Bool) (k : Nat) : List (List Atom) := (idxs p k).map fun i : Nat => [Atom.int .i64 (i : Int)]
theorem idxRows_zero (p : Nat → Bool) : idxRows p 0 = [] := rfl
theorem idxRows_yes (p : Nat → Bool) (k : Nat) (h : p k = true) : idxRows p (k + 1) = idxRows p k ++ [[Atom.int .i64 (k : Int)]] := by
  simp [idxRows, idxs, List.range_succ, h]
theorem idxRows_no (p : Nat → Bool) (k : Nat) (h : p k = false) : idxRows p (k + 1) = idxRows p k := by
  simp [idxRows, idxs, List.range_succ, h]
theorem idxRows_len (p : Nat → Bool) (k : Nat) : (idxRows p k).length ≤ k := by
  have := List.length_filter_le p (List.range k)
  simp [idxRows, idxs] at *; exact this
def canB (l : List Store) (at_ : Int) (i : Nat) : Bool := match l[i]? with | none => false | some s => readB s at_

set_option maxRecDepth 100000 in
set_option maxHeartbeats 1000000 in
theorem avail_den (l : List Store) (at_ : Int) (hl : l.length * 40 ≤ 140737488351232) (hf : ∀ s ∈ l, s.fit) :
    PDen Try.prog 20 [.a (.slice 3 (l.map Store.row)), .a (.int .i64 at_)] (.a (.slice 1 (idxRows (canB l at_) l.length))) := by
  refine den_of_body k_stale_Available ⟨rfl, Nat.le_of_ble_eq_true rfl, thaw_intro ?_⟩
  unfold c_stale_Available
  simp only [go_sem]
  refine t_loopO_intro [.slot 5 3 1] (fun k : Nat => k ≤ l.length) (fun k => l.length - k) 0 [5, 6, 7, 10, 11, 12, 13, 14, 15, 16, 17, 18, 19, 20, 21, 22] (fun k => [(5, .own 0), (10, .a (.int .i64 k))]) (fun k => []) (fun k => [⟨3, 1, idxRows (canB l at_) k, false⟩]) (by omega) (by simp) (by first | (simp; done) | simp [idxRows_zero]) (by first | (simp; done) | simp [idxRows_zero]) (by first | (simp; done) | simp [idxRows_zero]) (fun k => by first | (simp; done) | simp [idxRows_zero]) (fun k => by first | (simp; done) | simp [idxRows_zero]) (fun k => by first | (simp; done) | simp [idxRows_zero]) ?_
  intro k hk st_ hst
  simp only [go_sem] at hst
  subst hst
  by_cases hlt : k < l.length
  · have h3 : (k : Int) < (l.length : Int) := by omega
    have ew := wrap1 k l.length hlt (by omega)
    have e := getD_map Store.row l k hlt
    have hfk := hf _ (List.getElem_mem hlt)
    have hlen := idxRows_len (canB l at_) k
    have ec : canB l at_ k = readB l[k] at_ := by simp [canB, hlt]
    simp only [h3, e, go_sem]
    refine t_call_intro (readable_den l[k] hfk at_) ?_
    simp only [go_sem]
    first | refine t_case_dec (fun h4 => ?_) (fun h4 => ?_) | refine t_case_ndec (fun h4 => ?_) (fun h4 => ?_) | refine t_case_eqI (fun h4 => ?_) (fun h4 => ?_) | refine t_case_neI (fun h4 => ?_) (fun h4 => ?_) | refine t_case_not (fun h4 => ?_) (fun h4 => ?_) | refine t_case_intro (fun h4 => ?_) (fun h4 => ?_)
    · simp only [go_sem]
      refine t_gate_intro (by omega) ?_
      simp only [ew, go_sem]
      refine t_roundO (k + 1) (by omega) (by omega) (by first | (simp; done) | simp [idxRows_yes _ _ (ec.trans h4)]) (by first | (simp; done) | simp [idxRows_yes _ _ (ec.trans h4)]) (by first | (simp; done) | simp [idxRows_yes _ _ (ec.trans h4)]) (by first | (simp; done) | simp [idxRows_yes _ _ (ec.trans h4)]) (by first | (simp; done) | simp [idxRows_yes _ _ (ec.trans h4)])
    · simp only [ew, go_sem]
      refine t_roundO (k + 1) (by omega) (by omega) (by first | (simp; done) | simp [idxRows_no _ _ (ec.trans h4)]) (by first | (simp; done) | simp [idxRows_no _ _ (ec.trans h4)]) (by first | (simp; done) | simp [idxRows_no _ _ (ec.trans h4)]) (by first | (simp; done) | simp [idxRows_no _ _ (ec.trans h4)]) (by first | (simp; done) | simp [idxRows_no _ _ (ec.trans h4)])
  · have h3 : ¬ (k : Int) < (l.length : Int) := by omega
    have hke : k = l.length := by omega
    subst hke
    simp only [h3, go_sem]
    simp only [aresult, ares, go_sem]

theorem chooseA_tup (l : List Store) (nw bd : Int) : ∃ a b c : Int, chooseA l nw bd = .tup [.a (.int .i64 a), .a (.int .i64 b), .a (.int .i64 c)] := by
  unfold chooseA
  split
  · exact ⟨_, _, _, rfl⟩
  · split
    · exact ⟨_, _, _, rfl⟩
    · split <;> exact ⟨_, _, _, rfl⟩

end Go.Proofs.Ytlfebjehmabejaa

/- The package state: parts of lists of pairs, the value of a key. -/
set_option linter.unusedSimpArgs false
set_option linter.unusedVariables false
namespace Go.Proofs.Ytlfebjehmabejaa
open Go Ab
attribute [local irreducible] awp aops aop asoft aeff aloop acall
attribute [local go_sem] Vl.row Ver.row Row.row Store.row Rg.row
attribute [local go_sem] Pr.row

set_option maxRecDepth 100000 in
set_option maxHeartbeats 1000000 in
theorem slice_den (l : List Pr) (hl : l.length * 40 ≤ 140737488351232) (r : Rg) (hr : r.fit) :
    PDen Try.prog 49 [.a (.slice 4 (l.map Pr.row)), .agg r.row] (.a (.slice 4 (sliceRows r l l.length))) := by
  refine den_of_body k_state_Slice ⟨rfl, Nat.le_of_ble_eq_true rfl, thaw_intro ?_⟩
  unfold c_state_Slice
  simp only [go_sem]
  refine t_loopO_intro [.slot 5 58 4] (fun k : Nat => k ≤ l.length) (fun k => l.length - k) 0 [5, 7, 10, 11, 12, 13, 14, 15, 16, 17, 18, 19, 20, 21, 22] (fun k => [(5, .own 0), (10, .a (.int .i64 k))]) (fun k => [[.a (.str r.f), .a (.str r.t)]]) (fun k => [⟨58, 4, sliceRows r l k, false⟩]) (by omega) (by simp) (by first | (simp; done) | simp [sliceRows_zero]) (by first | (simp; done) | simp [sliceRows_zero]) (by first | (simp; done) | simp [sliceRows_zero]) (fun k => by first | (simp; done) | simp [sliceRows_zero]) (fun k => by first | (simp; done) | simp [sliceRows_zero]) (fun k => by first | (simp; done) | simp [sliceRows_zero]) ?_
  intro k hk st_ hst
  simp only [go_sem] at hst
  subst hst
  by_cases hlt : k < l.length
  · have h3 : (k : Int) < (l.length : Int) := by omega
    have ew := wrap1 k l.length hlt (by omega)
    have e := getD_map Pr.row l k hlt
    have hlen := sliceRows_len r l k
    simp only [h3, e, go_sem]
    refine t_call_intro (containsV_den r hr l[k].key) ?_
    simp only [go_sem]
    first | refine t_case_dec (fun h4 => ?_) (fun h4 => ?_) | refine t_case_ndec (fun h4 => ?_) (fun h4 => ?_) | refine t_case_eqI (fun h4 => ?_) (fun h4 => ?_) | refine t_case_neI (fun h4 => ?_) (fun h4 => ?_) | refine t_case_not (fun h4 => ?_) (fun h4 => ?_) | refine t_case_intro (fun h4 => ?_) (fun h4 => ?_)
    · simp only [go_sem]
      refine t_gate_intro (by omega) ?_
      simp only [ew, go_sem]
      refine t_roundO (k + 1) (by omega) (by omega) (by first | (simp; done) | simp [sliceRows_yes _ _ _ hlt h4]) (by first | (simp; done) | simp [sliceRows_yes _ _ _ hlt h4]) (by first | (simp; done) | simp [sliceRows_yes _ _ _ hlt h4]) (by first | (simp; done) | simp [sliceRows_yes _ _ _ hlt h4]) (by first | (simp; done) | simp [sliceRows_yes _ _ _ hlt h4])
    · simp only [ew, go_sem]
      refine t_roundO (k + 1) (by omega) (by omega) (by first | (simp; done) | simp [sliceRows_no _ _ _ hlt h4]) (by first | (simp; done) | simp [sliceRows_no _ _ _ hlt h4]) (by first | (simp; done) | simp [sliceRows_no _ _ _ hlt h4]) (by first | (simp; done) | simp [sliceRows_no _ _ _ hlt h4]) (by first | (simp; done) | simp [sliceRows_no _ _ _ hlt h4])
  · have h3 : ¬ (k : Int) < (l.length : Int) := by omega
    have hke : k = l.length := by omega
    simp only [h3, go_sem]
    simp only [aresult, ares, go_sem]
    rw [hke]


end Go.Proofs.Ytlfebjehmabejaa

/- Chapter 52: what is read, and the pairs that are shown. -/
set_option linter.unusedSimpArgs false
set_option linter.unusedVariables false
namespace Go.Proofs.Ytlfebjehmabejaa
open Go Ab
attribute [local irreducible] awp aops aop asoft aeff aloop acall
attribute [local go_sem] Vl.row Ver.row Row.row Store.row Rg.row Pr.row

theorem bestK_read (l : List Store) (nw bd : Int) : ∀ (k j : Nat), bestK l nw bd k = (j : Int) → ∃ hj : j < l.length, readB l[j] (least2 l[j].la nw) = true
  | 0, j, h => by simp only [bestK] at h; omega
  | k + 1, j, h => by
    by_cases hk : k < l.length
    · by_cases hr : (decide (l[k].la < nw - bd) || !readB l[k] (least2 l[k].la nw)) = true
      · rw [bestK_a l nw bd k hk hr] at h
        exact bestK_read l nw bd k j h
      · have hrd : readB l[k] (least2 l[k].la nw) = true := by simp at hr; exact hr.2
        by_cases hn : bestK l nw bd k < 0
        · rw [bestK_b l nw bd k hk hr hn] at h
          have : j = k := by omega
          subst this
          exact ⟨hk, hrd⟩
        · rcases bestK_cases l nw bd k with h0 | ⟨i, hi, ei⟩
          · omega
          · rw [bestK_c l nw bd k i hk hr (by omega) ei] at h
            split at h
            · have : j = k := by omega
              subst this
              exact ⟨hk, hrd⟩
            · rw [← ei] at h
              exact bestK_read l nw bd k j h
    · have : bestK l nw bd (k + 1) = bestK l nw bd k := by
        simp only [bestK, List.getElem?_eq_none (Nat.le_of_not_lt hk)]
      rw [this] at h
      exact bestK_read l nw bd k j h
theorem choose_split (l : List Store) (nw bd : Int) : (∃ c : Int, c ≠ 0 ∧ chooseA l nw bd = .tup [.a (.int .i64 0), .a (.int .i64 0), .a (.int .i64 c)]) ∨
    ∃ (j : Nat) (hj : j < l.length), 0 ≤ nw ∧ nw ≤ 1099511627776 ∧ readB l[j] (least2 l[j].la nw) = true ∧ chooseA l nw bd = .tup [.a (.int .i64 j), .a (.int .i64 (least2 l[j].la nw)), .a (.int .i64 0)] := by
  unfold chooseA
  split
  · exact .inl ⟨1, by omega, rfl⟩
  · rename_i hn
    split
    · exact .inl ⟨15, by omega, rfl⟩
    · rename_i s hs
      split
      · exact .inl ⟨15, by omega, rfl⟩
      · rename_i hneg
        rcases bestK_cases l nw bd l.length with h | ⟨j, hj, ej⟩
        · rw [h] at hneg; simp at hneg
        · rw [ej] at hs ⊢
          simp only [Int.toNat_natCast] at hs
          obtain ⟨hj', hr⟩ := bestK_read l nw bd l.length j ej
          have hss : s = l[j] := by rw [List.getElem?_eq_getElem hj'] at hs; exact (Option.some.inj hs).symm
          subst hss
          exact .inr ⟨j, hj', by omega, by omega, hr, rfl⟩

def readAt (e b : Int) : Int := if e = 0 then b else 0

/-! Snapshots -/
def snapBad (r : Rg) (at_ : Int) : Prop := rangeV r = false ∨ at_ < 0 ∨ 1099511627776 < at_
set_option maxRecDepth 100000 in
set_option maxHeartbeats 1000000 in
theorem snap_bad (l : List Store) (r : Rg) (hr : r.fit) (at_ : Int) (h : snapBad r at_) :
    PDen Try.prog 19 [.a (.slice 3 (l.map Store.row)), .agg r.row, .a (.int .i64 at_)] (.tup [.a .nils, .a (.int .i64 1)]) := by
  refine den_of_body k_stale_Snapshot ⟨rfl, Nat.le_of_ble_eq_true rfl, thaw_intro ?_⟩
  unfold c_stale_Snapshot
  simp only [go_sem]
  refine t_call_intro (rangeV_den r hr) ?_
  simp only [go_sem]
  first | refine t_case_dec (fun h1 => ?_) (fun h1 => ?_) | refine t_case_ndec (fun h1 => ?_) (fun h1 => ?_) | refine t_case_eqI (fun h1 => ?_) (fun h1 => ?_) | refine t_case_neI (fun h1 => ?_) (fun h1 => ?_) | refine t_case_not (fun h1 => ?_) (fun h1 => ?_) | refine t_case_intro (fun h1 => ?_) (fun h1 => ?_)
  rotate_left
  · simp only [go_sem]
    simp only [aresult, ares, go_sem]
  simp only [go_sem]
  first | refine t_case_dec (fun h2 => ?_) (fun h2 => ?_) | refine t_case_ndec (fun h2 => ?_) (fun h2 => ?_) | refine t_case_eqI (fun h2 => ?_) (fun h2 => ?_) | refine t_case_neI (fun h2 => ?_) (fun h2 => ?_) | refine t_case_not (fun h2 => ?_) (fun h2 => ?_) | refine t_case_intro (fun h2 => ?_) (fun h2 => ?_)
  · simp only [go_sem]
    simp only [aresult, ares, go_sem]
  simp only [go_sem]
  first | refine t_case_dec (fun h3 => ?_) (fun h3 => ?_) | refine t_case_ndec (fun h3 => ?_) (fun h3 => ?_) | refine t_case_eqI (fun h3 => ?_) (fun h3 => ?_) | refine t_case_neI (fun h3 => ?_) (fun h3 => ?_) | refine t_case_not (fun h3 => ?_) (fun h3 => ?_) | refine t_case_intro (fun h3 => ?_) (fun h3 => ?_)
  · simp only [go_sem]
    simp only [aresult, ares, go_sem]
  · exact absurd h (by simp [snapBad, h1, h2, h3])
theorem not_bad {r : Rg} {at_ : Int} (h : ¬ snapBad r at_) : rangeV r = true ∧ ¬ at_ < 0 ∧ ¬ 1099511627776 < at_ := by
  simp only [snapBad, not_or, Bool.not_eq_false] at h
  exact h
set_option maxRecDepth 100000 in
set_option maxHeartbeats 1000000 in
theorem snap_none (l : List Store) (hl : l.length * 40 ≤ 140737488351232) (hf : ∀ s ∈ l, s.fit) (r : Rg) (hr : r.fit) (at_ : Int) (h : ¬ snapBad r at_) (hno : ∀ (i : Nat) (hi : i < l.length), readB l[i] at_ = false) :
    PDen Try.prog 19 [.a (.slice 3 (l.map Store.row)), .agg r.row, .a (.int .i64 at_)] (.tup [.a .nils, .a (.int .i64 15)]) := by
  obtain ⟨h1, h2, h3⟩ := not_bad h
  have d2 : decide (at_ < 0) = false := decide_eq_false h2
  have d3 : decide (1099511627776 < at_) = false := decide_eq_false h3
  refine den_of_body k_stale_Snapshot ⟨rfl, Nat.le_of_ble_eq_true rfl, thaw_intro ?_⟩
  unfold c_stale_Snapshot
  simp only [go_sem]
  refine t_call_intro (h1 ▸ rangeV_den r hr) ?_
  simp only [d2, d3, go_sem]
  refine t_loop_intro (fun k : Nat => k ≤ l.length) (fun k => l.length - k) 0 [6, 7, 9, 10, 11, 25, 26, 27, 28, 29, 30, 31, 32, 33, 34, 35, 36, 37, 38, 39, 40, 41, 42, 43, 44, 45] (fun k => [(25, .a (.int .i64 k))]) (by omega) (by simp) (fun k => by simp) rfl ?_
  intro k hk fr_ hfr
  simp only [go_sem] at hfr
  subst hfr
  by_cases hlt : k < l.length
  · have h3 : (k : Int) < (l.length : Int) := by omega
    have ew := wrap1 k l.length hlt (by omega)
    have e := getD_map Store.row l k hlt
    simp only [h3, e, go_sem]
    refine t_call_intro (hno k hlt ▸ readable_den l[k] (hf _ (List.getElem_mem hlt)) at_) ?_
    simp only [ew, go_sem]
    refine t_round (k + 1) (by omega) (by omega) (by simp) rfl rfl (by simp) rfl
  · have h3 : ¬ (k : Int) < (l.length : Int) := by omega
    simp only [h3, go_sem]
    simp only [aresult, ares, go_sem]
def shown (s : Store) (at_ : Int) : List Pr := pairsTo (fun r => vlAt r.vs at_) s.rows s.rows.length
theorem shown_len (s : Store) (at_ : Int) : (shown s at_).length ≤ s.rows.length := by
  have := pairRows_len (fun r => vlAt r.vs at_) s.rows s.rows.length
  unfold pairRows at this
  rw [List.length_map] at this
  exact this
theorem readB_at (s : Store) (at_ : Int) (h : readB s at_ = true) : storeV s = true ∧ posE s at_ = 0 := by
  unfold readB at h
  simp only [Bool.and_eq_true, decide_eq_true_eq] at h
  refine ⟨h.1, ?_⟩
  unfold posE
  rw [if_neg (by omega)]
theorem atA_ok (f : Row → Vl) (s : Store) (at_ : Int) (h : readB s at_ = true) : atA f s at_ = .tup [.a (.slice 4 (pairRows f s.rows s.rows.length)), .a (.int .i64 0)] := by
  obtain ⟨h1, h2⟩ := readB_at s at_ h
  unfold atA
  rw [if_neg (by simp [h1]), if_neg (by simp [h2])]

set_option maxRecDepth 100000 in
set_option maxHeartbeats 1000000 in
theorem snap_some (l : List Store) (hl : l.length * 40 ≤ 140737488351232) (hf : ∀ s ∈ l, s.fit) (hb : ∀ s ∈ l, s.rows.length * 40 ≤ 140737488351232) (r : Rg) (hr : r.fit) (at_ : Int) (h : ¬ snapBad r at_) (j : Nat) (hj : j < l.length) (hyes : readB l[j] at_ = true) (hno : ∀ (i : Nat) (hi : i < l.length), i < j → readB l[i] at_ = false) :
    PDen Try.prog 19 [.a (.slice 3 (l.map Store.row)), .agg r.row, .a (.int .i64 at_)] (.tup [.a (.slice 4 (sliceRows r (shown l[j] at_) (shown l[j] at_).length)), .a (.int .i64 0)]) := by
  obtain ⟨h1, h2, h3⟩ := not_bad h
  have d2 : decide (at_ < 0) = false := decide_eq_false h2
  have d3 : decide (1099511627776 < at_) = false := decide_eq_false h3
  have hx : ((0 : Int) != 0) = false := rfl
  refine den_of_body k_stale_Snapshot ⟨rfl, Nat.le_of_ble_eq_true rfl, thaw_intro ?_⟩
  unfold c_stale_Snapshot
  simp only [go_sem]
  refine t_call_intro (h1 ▸ rangeV_den r hr) ?_
  simp only [d2, d3, go_sem]
  refine t_loop_intro (fun k : Nat => k ≤ l.length ∧ (k ≤ j)) (fun k => l.length - k) 0 [6, 7, 9, 10, 11, 25, 26, 27, 28, 29, 30, 31, 32, 33, 34, 35, 36, 37, 38, 39, 40, 41, 42, 43, 44, 45] (fun k => [(25, .a (.int .i64 k))]) ⟨by omega, by simp⟩ (by simp) (fun k => by simp) rfl ?_
  intro k hk0 fr_ hfr
  have hk : k ≤ l.length := hk0.1
  have hall := hk0.2
  clear hk0
  simp only [go_sem] at hfr
  subst hfr
  by_cases hlt : k < l.length
  · have h3 : (k : Int) < (l.length : Int) := by omega
    have ew := wrap1 k l.length hlt (by omega)
    have e := getD_map Store.row l k hlt
    simp only [h3, e, go_sem]
    by_cases hkj : k < j
    · refine t_call_intro (hno k hlt hkj ▸ readable_den l[k] (hf _ (List.getElem_mem hlt)) at_) ?_
      simp only [ew, go_sem]
      refine t_round (k + 1) ⟨by omega, by omega⟩ (by omega) (by simp) rfl rfl (by simp) rfl
    · have hkj : k = j := by omega
      subst hkj
      refine t_call_intro (hyes ▸ readable_den l[k] (hf _ (List.getElem_mem hlt)) at_) ?_
      simp only [go_sem]
      refine t_call_intro (atA_ok _ _ _ hyes ▸ at_den l[k] (hf _ (List.getElem_mem hlt)) (hb _ (List.getElem_mem hlt)) at_) ?_
      simp only [hx, go_sem]
      have hsl := shown_len l[k] at_
      have hbk := hb _ (List.getElem_mem hlt)
      refine t_call_intro (slice_den (shown l[k] at_) (by omega) r hr) ?_
      simp only [go_sem]
      simp only [aresult, ares, go_sem]
  · omega
theorem idxs_first (p : Nat → Bool) (j : Nat) (hp : p j = true) (hno : ∀ i, i < j → p i = false) : ∀ n, j < n → ∃ t, idxs p n = j :: t
  | n + 1, hn => by
    by_cases hjn : j < n
    · obtain ⟨t, ht⟩ := idxs_first p j hp hno n hjn
      refine ⟨t ++ (if p n then [n] else []), ?_⟩
      unfold idxs at ht ⊢
      rw [List.range_succ, List.filter_append, ht]
      by_cases hpn : p n = true <;> simp [hpn]
    · have : j = n := by omega
      subst this
      refine ⟨[], ?_⟩
      unfold idxs
      rw [List.range_succ, List.filter_append]
      have : (List.range j).filter p = [] := by
        rw [List.filter_eq_nil_iff]
        intro i hi
        simp [hno i (by simpa using hi)]
      rw [this]; simp [hp]
theorem first_or (l : List Store) (at_ : Int) : (∀ (i : Nat) (hi : i < l.length), readB l[i] at_ = false) ∨ ∃ (j : Nat) (hj : j < l.length), readB l[j] at_ = true ∧ ∀ (i : Nat) (hi : i < l.length), i < j → readB l[i] at_ = false := by
  have key : ∀ n, n ≤ l.length → (∀ (i : Nat) (hi : i < l.length), i < n → readB l[i] at_ = false) ∨ ∃ (j : Nat) (hj : j < l.length), readB l[j] at_ = true ∧ ∀ (i : Nat) (hi : i < l.length), i < j → readB l[i] at_ = false := by
    intro n
    induction n with
    | zero => intro _; exact .inl fun i _ h => by omega
    | succ n ih =>
      intro hn
      rcases ih (by omega) with h | h
      · cases hb : readB l[n] at_ with
        | true => exact .inr ⟨n, by omega, hb, h⟩
        | false =>
          refine .inl fun i hi hin => ?_
          by_cases hx : i = n
          · subst hx; exact hb
          · exact h i hi (by omega)
      · exact .inr h
  rcases key l.length (Nat.le_refl _) with h | h
  · exact .inl fun i hi => h i hi hi
  · exact .inr h
end Go.Proofs.Ytlfebjehmabejaa
