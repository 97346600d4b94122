/- The package stale: which store is read. -/
import Derived.Test.YtpicnfikpeekeaaMv
namespace Go.Proofs.Ytpicnfikpeekeaa
open Go Ab
attribute [local irreducible] awp aops aop asoft aeff aloop acall

def readB (s : Store) (at_ : Int) : Bool := storeV s && (decide (s.fl ≤ at_) && decide (at_ ≤ s.la))

set_option maxRecDepth 100000 in
theorem readable_den (s : Store) (hs : s.fit) (at_ : Int) :
    PDen Try.prog 26 [.agg s.row, .a (.int .i64 at_)] (.a (.bool (readB s at_))) := by
  refine den_of_body k_stale_readable ⟨rfl, Nat.le_of_ble_eq_true rfl, thaw_intro ?_⟩
  have er : s.row = [.int .i64 s.fl, .int .i64 s.la, .slice 2 (s.rows.map Row.row)] := rfl
  unfold c_stale_readable
  simp only [er, go_sem]
  refine t_call_intro (storeV_den s hs) ?_
  simp only [go_sem]
  refine t_case_intro (fun h => ?_) (fun h => ?_)
  · simp only [go_sem]
    refine t_case_intro (fun h1 => ?_) (fun h1 => ?_)
    · simp only [go_sem]
      simp only [aresult, ares, go_sem]
      simp at h h1
      simp [readB, h, h1]
    · simp only [go_sem]
      simp only [aresult, ares, go_sem]
      simp at h h1
      simp [readB, h]; omega
  · simp only [go_sem]
    simp only [aresult, ares, go_sem]
    simp [readB, h]

def least2 (a b : Int) : Int := if b < a then b else a

set_option maxRecDepth 100000 in
theorem least_den (a b : Int) :
    PDen Try.prog 27 [.a (.int .i64 a), .a (.slice 1 [[.int .i64 b]])] (.a (.int .i64 (least2 a b))) := by
  refine den_of_body k_stale_least ⟨rfl, Nat.le_of_ble_eq_true rfl, thaw_intro ?_⟩
  unfold c_stale_least
  simp only [List.length_cons, List.length_nil, go_sem]
  refine t_loop_intro (fun k : Nat => k ≤ 1) (fun k => 1 - k) 0 [0, 6, 9, 10, 11, 12, 13, 14, 15, 16, 17] (fun k => [(0, .a (.int .i64 (if k = 0 then a else least2 a b))), (9, .a (.int .i64 k))]) (by omega) (by simp) (fun k => by simp) rfl ?_
  intro k hk fr' hfr
  simp only [go_sem] at hfr
  subst hfr
  by_cases hlt : k = 0
  · subst hlt
    have ew := wrap1 0 1 (by omega) (by omega)
    have h1 : ((0 : Nat) : Int) < ((0 + 1 : Nat) : Int) := by omega
    have e : ([[Atom.int .i64 b]] : List (List Atom)).getD 0 [] = [.int .i64 b] := rfl
    simp only [h1, e, List.length_cons, List.length_nil, if_true, go_sem]
    refine t_case_intro (fun h2 => ?_) (fun h2 => ?_)
    · simp only [ew, go_sem]
      have e2 : least2 a b = b := by simp at h2; simp [least2, h2]
      exact ⟨1, by omega, by omega, by simp [e2], rfl, rfl, by simp, rfl⟩
    · simp only [ew, go_sem]
      have e2 : least2 a b = a := by simp at h2; simp [least2]; omega
      exact ⟨1, by omega, by omega, by simp [e2], rfl, rfl, by simp, rfl⟩
  · have hk1 : k = 1 := by omega
    subst hk1
    have h1 : ¬ ((1 : Nat) : Int) < ((0 + 1 : Nat) : Int) := by omega
    simp only [h1, go_sem]
    simp only [aresult, ares, go_sem]

def bestK (l : List Store) (nw bd : Int) : Nat → Int
  | 0 => -1
  | k + 1 => match l[k]? with
    | none => bestK l nw bd k
    | some s => if s.la < nw - bd || !readB s (least2 s.la nw) then bestK l nw bd k
      else if bestK l nw bd k < 0 then (k : Int) else match l[(bestK l nw bd k).toNat]? with
        | none => bestK l nw bd k
        | some t => if t.la < s.la then (k : Int) else bestK l nw bd k
theorem bestK_cases (l : List Store) (nw bd : Int) (k : Nat) : bestK l nw bd k = -1 ∨ ∃ j : Nat, j < k ∧ bestK l nw bd k = (j : Int) := by
  induction k with
  | zero => exact Or.inl rfl
  | succ k ih =>
    have hw : bestK l nw bd k = -1 ∨ ∃ j : Nat, j < k + 1 ∧ bestK l nw bd k = (j : Int) := by
      rcases ih with h | ⟨j, hj, h⟩
      · exact Or.inl h
      · exact Or.inr ⟨j, by omega, h⟩
    unfold bestK
    split
    · exact hw
    · split
      · exact hw
      · split
        · exact Or.inr ⟨k, by omega, rfl⟩
        · split
          · exact hw
          · split
            · exact Or.inr ⟨k, by omega, rfl⟩
            · exact hw
def chooseA (l : List Store) (nw bd : Int) : AV :=
  if nw < 0 ∨ 1099511627776 < nw ∨ bd < 0 then .tup [.a (.int .i64 0), .a (.int .i64 0), .a (.int .i64 1)]
  else match l[(bestK l nw bd l.length).toNat]? with
    | none => .tup [.a (.int .i64 0), .a (.int .i64 0), .a (.int .i64 15)]
    | some s => if bestK l nw bd l.length < 0 then .tup [.a (.int .i64 0), .a (.int .i64 0), .a (.int .i64 15)]
      else .tup [.a (.int .i64 (bestK l nw bd l.length)), .a (.int .i64 (least2 s.la nw)), .a (.int .i64 0)]

set_option maxRecDepth 100000 in
set_option maxHeartbeats 1000000 in
theorem choose_den (l : List Store) (nw bd : Int) (hl : l.length ≤ 9223372036854775807) (hf : ∀ s ∈ l, s.fit) (hbd : bd ≤ 9223372036854775807) :
    PDen Try.prog 8 [.a (.slice 3 (l.map Store.row)), .a (.int .i64 nw), .a (.int .i64 bd)] (chooseA l nw bd) := by
  refine den_of_body k_stale_Choose ⟨rfl, Nat.le_of_ble_eq_true rfl, thaw_intro ?_⟩
  unfold c_stale_Choose
  simp only [go_sem]
  refine t_case_intro (fun h => ?_) (fun h => ?_)
  rotate_left
  · simp only [go_sem]
    simp only [aresult, ares, go_sem]
    rw [chooseA, if_pos (by simp at h; omega)]
  · simp only [go_sem]
    refine t_case_intro (fun h1 => ?_) (fun h1 => ?_)
    rotate_left
    · simp only [go_sem]
      simp only [aresult, ares, go_sem]
      rw [chooseA, if_pos (by simp at h1; omega)]
    · simp only [go_sem]
      refine t_case_intro (fun h2 => ?_) (fun h2 => ?_)
      · simp only [go_sem]
        simp only [aresult, ares, go_sem]
        rw [chooseA, if_pos (by simp at h2; omega)]
      · have hnp : ¬ (nw < 0 ∨ 1099511627776 < nw ∨ bd < 0) := by simp at h h1 h2; omega
        have hw : IntKind.i64.wrap (nw - bd) = nw - bd := by rw [IntKind.wrap_i64]; omega
        simp only [go_sem]
        refine t_loop_intro (fun k : Nat => k ≤ l.length) (fun k => l.length - k) 0 [9, 10, 11, 24, 25, 26, 27, 28, 29, 30, 31, 32, 33, 34, 35, 36, 37, 38, 39, 40, 41, 42, 43, 44, 45, 46, 47, 48, 49, 50, 51, 52, 53, 54, 55, 56, 57, 58] (fun k => [(9, .a (.int .i64 (bestK l nw bd k))), (24, .a (.int .i64 k))]) (by omega) (by simp [bestK]) (fun k => by simp) rfl ?_
        intro k hk fr' hfr
        simp only [go_sem] at hfr
        subst hfr
        by_cases hlt : k < l.length
        · have h3 : (k : Int) < (l.length : Int) := by omega
          have ew := wrap1 k l.length hlt hl
          have e := getD_map Store.row l k hlt
          have er : l[k].row = [.int .i64 l[k].fl, .int .i64 l[k].la, .slice 2 (l[k].rows.map Row.row)] := rfl
          have hfk := hf _ (List.getElem_mem hlt)
          have hstep : bestK l nw bd (k + 1) = if l[k].la < nw - bd || !readB l[k] (least2 l[k].la nw) then bestK l nw bd k
            else if bestK l nw bd k < 0 then (k : Int) else match l[(bestK l nw bd k).toNat]? with
              | none => bestK l nw bd k
              | some t => if t.la < l[k].la then (k : Int) else bestK l nw bd k := by
            simp [bestK, hlt]
          simp only [h3, e, er, hw, go_sem]
          refine t_case_intro (fun h4 => ?_) (fun h4 => ?_)
          · simp only [go_sem]
            refine t_call_intro (least_den l[k].la nw) ?_
            simp only [go_sem]
            refine t_call_intro (readable_den l[k] hfk (least2 l[k].la nw)) ?_
            simp only [go_sem]
            refine t_case_intro (fun h5 => ?_) (fun h5 => ?_)
            · have eb : bestK l nw bd (k + 1) = bestK l nw bd k := by rw [hstep, if_pos (by simp at h5; simp [h5])]
              simp only [ew, go_sem]
              refine t_round (k + 1) (by omega) (by omega) (by simp [eb]) rfl rfl (by simp) rfl
            · have hr : ¬ (decide (l[k].la < nw - bd) || !readB l[k] (least2 l[k].la nw)) = true := by simp at h4 h5; simp [h5]; omega
              simp only [go_sem]
              refine t_case_intro (fun h7 => ?_) (fun h7 => ?_)
              rotate_left
              · have eb : bestK l nw bd (k + 1) = (k : Int) := by rw [hstep, if_neg hr, if_pos (by simp at h7; omega)]
                simp only [ew, go_sem]
                refine t_round (k + 1) (by omega) (by omega) (by simp [eb]) rfl rfl (by simp) rfl
              · have h7' : ¬ bestK l nw bd k < 0 := by simp at h7; omega
                obtain ⟨j, hj, ej⟩ : ∃ j : Nat, j < k ∧ bestK l nw bd k = (j : Int) := by
                  rcases bestK_cases l nw bd k with h | h
                  · rw [h] at h7'; simp at h7'
                  · exact h
                have hjl : j < l.length := by omega
                have h8 : (j : Int) < (l.length : Int) := by omega
                have e1 := getD_map Store.row l j hjl
                have er1 : l[j].row = [.int .i64 l[j].fl, .int .i64 l[j].la, .slice 2 (l[j].rows.map Row.row)] := rfl
                have hs2 : bestK l nw bd (k + 1) = if l[j].la < l[k].la then (k : Int) else (j : Int) := by
                  rw [hstep, if_neg hr, if_neg h7', ej]; simp [hjl]
                simp only [ej, h8, e1, er1, go_sem]
                refine t_case_intro (fun h9 => ?_) (fun h9 => ?_)
                · have eb : bestK l nw bd (k + 1) = (k : Int) := by rw [hs2, if_pos (by simpa using h9)]
                  simp only [ew, go_sem]
                  refine t_round (k + 1) (by omega) (by omega) (by simp [eb]) rfl rfl (by simp) rfl
                · have eb : bestK l nw bd (k + 1) = (j : Int) := by rw [hs2, if_neg (by simpa using h9)]
                  simp only [ew, go_sem]
                  refine t_round (k + 1) (by omega) (by omega) (by simp [eb]) rfl rfl (by simp) rfl
          · have eb : bestK l nw bd (k + 1) = bestK l nw bd k := by rw [hstep, if_pos (by simp at h4; simp [h4])]
            simp only [ew, go_sem]
            refine t_round (k + 1) (by omega) (by omega) (by simp [eb]) rfl rfl (by simp) rfl
        · have h3 : ¬ (k : Int) < (l.length : Int) := by omega
          have hke : k = l.length := by omega
          simp only [h3, go_sem]
          refine t_case_intro (fun h7 => ?_) (fun h7 => ?_)
          · simp only [go_sem]
            simp only [aresult, ares, go_sem]
            rw [chooseA, if_neg hnp, ← hke]
            split
            · rfl
            · rw [if_pos (by simpa using h7)]
          · have h7' : ¬ bestK l nw bd k < 0 := by simp at h7; omega
            obtain ⟨j, hj, ej⟩ : ∃ j : Nat, j < k ∧ bestK l nw bd k = (j : Int) := by
              rcases bestK_cases l nw bd k with h | h
              · rw [h] at h7'; simp at h7'
              · exact h
            have hjl : j < l.length := by omega
            have h8 : (j : Int) < (l.length : Int) := by omega
            have e1 := getD_map Store.row l j hjl
            have er1 : l[j].row = [.int .i64 l[j].fl, .int .i64 l[j].la, .slice 2 (l[j].rows.map Row.row)] := rfl
            simp only [ej, h8, e1, er1, go_sem]
            refine t_call_intro (least_den l[j].la nw) ?_
            simp only [go_sem]
            simp only [aresult, ares, go_sem]
            rw [chooseA, if_neg hnp, ← hke, ej]
            simp [hjl]
end Go.Proofs.Ytpicnfikpeekeaa
