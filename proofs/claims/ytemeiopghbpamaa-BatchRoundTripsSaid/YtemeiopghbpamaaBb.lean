/- Lists of keys, footprints, arguments: contracts of the abstract layer. -/
import Derived.Test.YtemeiopghbpamaaBa
set_option linter.unusedSimpArgs false
set_option linter.unusedVariables false
namespace Go.Proofs.Ytemeiopghbpamaa
open Go Ab Go.RowKit
attribute [local irreducible] awp aops aop asoft aeff aloop acall acallI acallT
attribute [local go_sem] Vl.row sRow

/-! Ascending lists of keys -/
def kStep : Option ByteArray → ByteArray → Bool
  | none, _ => true
  | some q, k => strGt k q
def ascK : Option ByteArray → List ByteArray → Bool
  | _, [] => true
  | p, x :: xs => keyV x && kStep p x && ascK (some x) xs
def kpp (l : List ByteArray) : Nat → Option ByteArray
  | 0 => none
  | j + 1 => l[j]?
theorem ascK_step (l : List ByteArray) (k : Nat) (h : k < l.length) : ascK (kpp l k) (l.drop k) = (keyV l[k] && kStep (kpp l k) l[k] && ascK (kpp l (k + 1)) (l.drop (k + 1))) := by
  rw [List.drop_eq_getElem_cons h]
  simp only [ascK, kpp]
  rw [List.getElem?_eq_getElem h]
theorem kpp_zero (l : List ByteArray) (k : Nat) (h : k = 0) : kpp l k = none := by rw [h]; rfl
theorem kpp_pos (l : List ByteArray) (k : Nat) (h : 0 < k) (h2 : k - 1 < l.length) : kpp l k = some l[k-1] := by
  obtain ⟨j, rfl⟩ : ∃ j, k = j + 1 := ⟨k - 1, by omega⟩
  simp only [Nat.add_sub_cancel] at h2 ⊢
  simp [kpp, h2]
def KeysFit (l : List ByteArray) : Prop := l.length * 8 ≤ 140737488351232 ∧ ∀ s ∈ l, s.size ≤ 9223372036854775807
set_option maxRecDepth 100000 in
set_option maxHeartbeats 2000000 in
theorem kasc_den (l : List ByteArray) (hf : KeysFit l) : PDen Try.prog 64 [.a (.slice 1 (l.map sRow))] (.a (.bool (ascK none l && decide (l.length ≤ 64)))) := by
  have hl := hf.1
  refine den_of_body k_footprint_ascending ⟨rfl, Nat.le_of_ble_eq_true rfl, thaw_intro ?_⟩
  unfold c_footprint_ascending
  simp only [go_sem]
  refine t_loop_intro (fun k : Nat => k ≤ l.length ∧ (ascK none l = ascK (kpp l k) (l.drop k))) (fun k => l.length - k) 0 [2, 3, 4, 7, 8, 9, 10, 11, 12, 13, 14, 15, 16, 17, 18, 19, 20, 21, 22, 23, 24, 25, 26, 27, 28] (fun k => [(7, .a (.int .i64 k))]) ⟨by omega, by rfl⟩ (by simp) (fun k => by simp) rfl ?_
  intro k hk0 fr_ hfr
  have hk : k ≤ l.length := hk0.1
  have hall := hk0.2
  clear hk0
  simp only [go_sem] at hfr
  subst hfr
  by_cases hlt : k < l.length
  · have h1 : (k : Int) < (l.length : Int) := by omega
    have e := getD_map sRow l k hlt
    have er : sRow l[k] = [.str l[k]] := rfl
    have ew := wrap1 k l.length hlt (by omega)
    have es := ascK_step l k hlt
    have hfk := hf.2 _ (List.getElem_mem hlt)
    simp only [h1, e, er, go_sem]
    refine t_call_intro (keyV_den l[k] hfk) ?_
    simp only [go_sem]
    first | refine t_case_dec (fun h2 => ?_) (fun h2 => ?_) | refine t_case_ndec (fun h2 => ?_) (fun h2 => ?_) | refine t_case_eqI (fun h2 => ?_) (fun h2 => ?_) | refine t_case_neI (fun h2 => ?_) (fun h2 => ?_) | refine t_case_not (fun h2 => ?_) (fun h2 => ?_) | refine t_case_intro (fun h2 => ?_) (fun h2 => ?_)
    rotate_left
    · simp only [go_sem]
      simp only [aresult, ares, go_sem]
      rw [hall, es, h2]; simp
    simp only [go_sem]
    first | refine t_case_dec (fun h4 => ?_) (fun h4 => ?_) | refine t_case_ndec (fun h4 => ?_) (fun h4 => ?_) | refine t_case_eqI (fun h4 => ?_) (fun h4 => ?_) | refine t_case_neI (fun h4 => ?_) (fun h4 => ?_) | refine t_case_not (fun h4 => ?_) (fun h4 => ?_) | refine t_case_intro (fun h4 => ?_) (fun h4 => ?_)
    rotate_left
    · have hk0 : k = 0 := by omega
      have epp := kpp_zero l k hk0
      simp only [ew, go_sem]
      refine t_round (k + 1) ⟨by omega, by rw [hall, es, h2, epp]; simp [kStep, ← epp]⟩ (by omega) (by simp) rfl rfl (by simp) rfl
    have hk1 : 0 < k := by omega
    have ew' := unwrap1 k hk1 (by omega)
    have hlt1 : k - 1 < l.length := by omega
    have h8 : ((k - 1 : Nat) : Int) < (l.length : Int) := by omega
    have e1 := getD_map sRow l (k - 1) hlt1
    have er1 : sRow l[k-1] = [.str l[k-1]] := rfl
    have epp := kpp_pos l k hk1 hlt1
    simp only [ew', h8, h1, e, er, e1, er1, go_sem]
    first | refine t_case_dec (fun h9 => ?_) (fun h9 => ?_) | refine t_case_ndec (fun h9 => ?_) (fun h9 => ?_) | refine t_case_eqI (fun h9 => ?_) (fun h9 => ?_) | refine t_case_neI (fun h9 => ?_) (fun h9 => ?_) | refine t_case_not (fun h9 => ?_) (fun h9 => ?_) | refine t_case_intro (fun h9 => ?_) (fun h9 => ?_)
    · simp only [go_sem]
      simp only [aresult, ares, go_sem]
      rw [hall, es, epp]; simp only [kStep, strGt]; simp [h9]
    · simp only [ew, go_sem]
      refine t_round (k + 1) ⟨by omega, by rw [hall, es, h2, epp]; simp only [kStep, strGt]; simp [h9]⟩ (by omega) (by simp) rfl rfl (by simp) rfl
  · have h1 : ¬ (k : Int) < (l.length : Int) := by omega
    simp only [h1, go_sem]
    simp only [aresult, ares, go_sem]
    rw [hall, List.drop_eq_nil_of_le (by omega)]
    simp only [ascK, Bool.true_and]
    congr 3
    rw [Bool.eq_iff_iff]; simp; omega
set_option maxRecDepth 100000 in
set_option maxHeartbeats 2000000 in
theorem rkasc_den (l : List ByteArray) (hf : KeysFit l) : PDen Try.prog 53 [.a (.slice 1 (l.map sRow))] (.a (.bool (ascK none l))) := by
  have hl := hf.1
  refine den_of_body k_ref04_Ascending ⟨rfl, Nat.le_of_ble_eq_true rfl, thaw_intro ?_⟩
  unfold c_ref04_Ascending
  simp only [go_sem]
  refine t_loop_intro (fun k : Nat => k ≤ l.length ∧ (ascK none l = ascK (kpp l k) (l.drop k))) (fun k => l.length - k) 0 [2, 3, 4, 5, 6, 7, 8, 9, 10, 11, 12, 13, 14, 15, 16, 17, 18, 19, 20, 21, 22, 23, 24, 25, 26, 27, 28, 29, 30, 31] (fun k => [(3, .a (.int .i64 k))]) ⟨by omega, by rfl⟩ (by simp) (fun k => by simp) rfl ?_
  intro k hk0 fr_ hfr
  have hk : k ≤ l.length := hk0.1
  have hall := hk0.2
  clear hk0
  simp only [go_sem] at hfr
  subst hfr
  by_cases hlt : k < l.length
  · have h1 : (k : Int) < (l.length : Int) := by omega
    have e := getD_map sRow l k hlt
    have er : sRow l[k] = [.str l[k]] := rfl
    have ew := wrap1 k l.length hlt (by omega)
    have es := ascK_step l k hlt
    have hfk := hf.2 _ (List.getElem_mem hlt)
    simp only [h1, e, er, go_sem]
    refine t_call_intro (rkeyV_den l[k] hfk) ?_
    simp only [go_sem]
    first | refine t_case_dec (fun h2 => ?_) (fun h2 => ?_) | refine t_case_ndec (fun h2 => ?_) (fun h2 => ?_) | refine t_case_eqI (fun h2 => ?_) (fun h2 => ?_) | refine t_case_neI (fun h2 => ?_) (fun h2 => ?_) | refine t_case_not (fun h2 => ?_) (fun h2 => ?_) | refine t_case_intro (fun h2 => ?_) (fun h2 => ?_)
    rotate_left
    · simp only [go_sem]
      simp only [aresult, ares, go_sem]
      rw [hall, es, h2]; simp
    simp only [go_sem]
    first | refine t_case_dec (fun h4 => ?_) (fun h4 => ?_) | refine t_case_ndec (fun h4 => ?_) (fun h4 => ?_) | refine t_case_eqI (fun h4 => ?_) (fun h4 => ?_) | refine t_case_neI (fun h4 => ?_) (fun h4 => ?_) | refine t_case_not (fun h4 => ?_) (fun h4 => ?_) | refine t_case_intro (fun h4 => ?_) (fun h4 => ?_)
    rotate_left
    · have hk0 : k = 0 := by omega
      have epp := kpp_zero l k hk0
      simp only [ew, go_sem]
      refine t_round (k + 1) ⟨by omega, by rw [hall, es, h2, epp]; simp [kStep, ← epp]⟩ (by omega) (by simp) rfl rfl (by simp) rfl
    have hk1 : 0 < k := by omega
    have ew' := unwrap1 k hk1 (by omega)
    have hlt1 : k - 1 < l.length := by omega
    have h8 : ((k - 1 : Nat) : Int) < (l.length : Int) := by omega
    have e1 := getD_map sRow l (k - 1) hlt1
    have er1 : sRow l[k-1] = [.str l[k-1]] := rfl
    have epp := kpp_pos l k hk1 hlt1
    simp only [ew', h8, h1, e, er, e1, er1, go_sem]
    first | refine t_case_dec (fun h9 => ?_) (fun h9 => ?_) | refine t_case_ndec (fun h9 => ?_) (fun h9 => ?_) | refine t_case_eqI (fun h9 => ?_) (fun h9 => ?_) | refine t_case_neI (fun h9 => ?_) (fun h9 => ?_) | refine t_case_not (fun h9 => ?_) (fun h9 => ?_) | refine t_case_intro (fun h9 => ?_) (fun h9 => ?_)
    · simp only [ew, go_sem]
      refine t_round (k + 1) ⟨by omega, by rw [hall, es, h2, epp]; simp only [kStep, strGt_lt]; simp [h9]⟩ (by omega) (by simp) rfl rfl (by simp) rfl
    · simp only [go_sem]
      simp only [aresult, ares, go_sem]
      rw [hall, es, epp]; simp only [kStep, strGt_lt]; simp [h9]
  · have h1 : ¬ (k : Int) < (l.length : Int) := by omega
    simp only [h1, go_sem]
    simp only [aresult, ares, go_sem]
    rw [hall, List.drop_eq_nil_of_le (by omega)]; rfl

/-! Equality of lists -/
def eqL {α : Type} (f : α → α → Bool) : List α → List α → Bool
  | [], [] => true
  | x :: xs, y :: ys => f x y && eqL f xs ys
  | _, _ => false
theorem eqL_len {α : Type} (f : α → α → Bool) : ∀ (a b : List α), a.length ≠ b.length → eqL f a b = false
  | [], [], h => absurd rfl h
  | [], _ :: _, _ => rfl
  | _ :: _, [], _ => rfl
  | x :: xs, y :: ys, h => by simp only [eqL]; rw [eqL_len f xs ys (by simpa using h), Bool.and_false]
theorem eqL_step {α : Type} (f : α → α → Bool) (a b : List α) (k : Nat) (h : k < a.length) (h2 : k < b.length) : eqL f (a.drop k) (b.drop k) = (f a[k] b[k] && eqL f (a.drop (k + 1)) (b.drop (k + 1))) := by
  rw [List.drop_eq_getElem_cons h, List.drop_eq_getElem_cons h2]; rfl
def strEq (a b : ByteArray) : Bool := a.toList == b.toList
set_option maxRecDepth 100000 in
set_option maxHeartbeats 1000000 in
theorem rksame_den (a b : List ByteArray) (ha : a.length ≤ 9223372036854775807) : PDen Try.prog 45 [.a (.slice 1 (a.map sRow)), .a (.slice 1 (b.map sRow))] (.a (.bool (eqL strEq a b))) := by
  by_cases hl : a.length = b.length
  · have q : ((a.length : Int) != (b.length : Int)) = false := by simp [hl]
    refine den_of_body k_ref04_Same ⟨rfl, Nat.le_of_ble_eq_true rfl, thaw_intro ?_⟩
    unfold c_ref04_Same
    simp only [q, go_sem]
    refine t_loop_intro (fun k : Nat => k ≤ a.length ∧ (eqL strEq a b = eqL strEq (a.drop k) (b.drop k))) (fun k => a.length - k) 0 [4, 5, 11, 12, 13, 14, 15, 16, 17, 18, 19, 20, 21, 22, 23, 24, 25] (fun k => [(5, .a (.int .i64 k))]) ⟨by omega, by rfl⟩ (by simp) (fun k => by simp) rfl ?_
    intro k hk0 fr_ hfr
    have hk : k ≤ a.length := hk0.1
    have hall := hk0.2
    clear hk0
    simp only [go_sem] at hfr
    subst hfr
    by_cases hlt : k < a.length
    · have h1 : (k : Int) < (a.length : Int) := by omega
      have h1' : (k : Int) < (b.length : Int) := by omega
      have hlt2 : k < b.length := by omega
      have e := getD_map sRow a k hlt
      have e2 := getD_map sRow b k hlt2
      have er : sRow a[k] = [.str a[k]] := rfl
      have er2 : sRow b[k] = [.str b[k]] := rfl
      have ew := wrap1 k a.length hlt (by omega)
      have es := eqL_step strEq a b k hlt hlt2
      cases hq : strEq a[k] b[k] with
      | true =>
        have hq' : (a[k].toList == b[k].toList) = true := hq
        simp only [h1, h1', e, er, e2, er2, hq', ew, go_sem]
        refine t_round (k + 1) ⟨by omega, by rw [hall, es, hq]; rfl⟩ (by omega) (by simp) rfl rfl (by simp) rfl
      | false =>
        have hq' : (a[k].toList == b[k].toList) = false := hq
        simp only [h1, h1', e, er, e2, er2, hq', go_sem]
        simp only [aresult, ares, go_sem]
        rw [hall, es, hq]; rfl
    · have h1 : ¬ (k : Int) < (a.length : Int) := by omega
      simp only [h1, go_sem]
      simp only [aresult, ares, go_sem]
      rw [hall, List.drop_eq_nil_of_le (by omega), List.drop_eq_nil_of_le (by omega)]; rfl
  · have q : ((a.length : Int) != (b.length : Int)) = true := by simp; omega
    rw [eqL_len strEq a b hl]
    refine den_of_body k_ref04_Same ⟨rfl, Nat.le_of_ble_eq_true rfl, thaw_intro ?_⟩
    unfold c_ref04_Same
    simp only [q, go_sem]
    simp only [aresult, ares, go_sem]
end Go.Proofs.Ytemeiopghbpamaa
