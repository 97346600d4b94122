/- Chapter 22: the reference's New; lists of pairs that are states, the reference's way. -/
import Derived.Test.YtlfebjehmabejaaMsm
import Derived.Test.YtlfebjehmabejaaMwE
set_option linter.unusedSimpArgs false
set_option linter.unusedVariables false
namespace Go.Proofs.Ytlfebjehmabejaa
open Go Ab
attribute [local irreducible] awp aops aop asoft aeff aloop acall acallI acallT
attribute [local go_sem] Vl.row Ver.row Row.row Store.row Rg.row Pr.row

def ascGo : Option Pr → List Pr → Bool
  | _, [] => true
  | p, x :: xs => keyV x.key && prStep p x && ascGo (some x) xs
theorem ascGo_step (l : List Pr) (k : Nat) (h : k < l.length) : ascGo (pp l k) (l.drop k) = (keyV l[k].key && prStep (pp l k) l[k] && ascGo (pp l (k + 1)) (l.drop (k + 1))) := by
  rw [List.drop_eq_getElem_cons h]
  simp only [ascGo, pp]
  rw [List.getElem?_eq_getElem h]
theorem writes_split : ∀ (l : List Pr) (p : Option Pr), writesGo p l = (l.all (fun p => valV p.v) && ascGo p l)
  | [], _ => rfl
  | x :: xs, p => by
    simp only [writesGo, ascGo, List.all_cons]
    rw [writes_split xs (some x)]
    cases keyV x.key <;> cases valV x.v <;> cases prStep p x <;> cases xs.all (fun p => valV p.v) <;> rfl

set_option maxRecDepth 100000 in
set_option maxHeartbeats 2000000 in
theorem rasc_den (l : List Pr) (hl : l.length * 40 ≤ 140737488351232) (hf : ∀ p ∈ l, p.fit) : PDen Try.prog 59 [.a (.slice 4 (l.map Pr.row))] (.a (.bool (ascGo none l))) := by
  refine den_of_body k_ref06_ascending ⟨rfl, Nat.le_of_ble_eq_true rfl, thaw_intro ?_⟩
  unfold c_ref06_ascending
  simp only [go_sem]
  refine t_loop_intro (fun k : Nat => k ≤ l.length ∧ (ascGo none l = ascGo (pp l k) (l.drop k))) (fun k => l.length - k) 0 [2, 3, 4, 5, 6, 7, 8, 9, 10, 11, 12, 13, 14, 15, 16, 17, 18, 19, 20, 21, 22, 23, 24, 25, 26, 27, 28, 29, 30, 31, 32, 33, 34] (fun k => [(3, .a (.int .i64 k))]) ⟨by omega, by rfl⟩ (by simp) (fun k => by simp) rfl ?_
  intro k hk0 fr_ hfr
  have hk : k ≤ l.length := hk0.1
  have hall := hk0.2
  clear hk0
  simp only [go_sem] at hfr
  subst hfr
  by_cases hlt : k < l.length
  · have h1 : (k : Int) < (l.length : Int) := by omega
    have e := getD_map Pr.row l k hlt
    have er : l[k].row = [.str l[k].key, .int .i64 l[k].v.kind, .int .i64 l[k].v.n, .str l[k].v.s] := rfl
    have ew := wrap1 k l.length hlt (by omega)
    have es := ascGo_step l k hlt
    have hfk := hf _ (List.getElem_mem hlt)
    simp only [h1, e, er, go_sem]
    refine t_call_intro (rkeyV_den l[k].key hfk.1) ?_
    simp only [go_sem]
    first | refine t_case_dec (fun h2 => ?_) (fun h2 => ?_) | refine t_case_ndec (fun h2 => ?_) (fun h2 => ?_) | refine t_case_eqI (fun h2 => ?_) (fun h2 => ?_) | refine t_case_neI (fun h2 => ?_) (fun h2 => ?_) | refine t_case_not (fun h2 => ?_) (fun h2 => ?_) | refine t_case_intro (fun h2 => ?_) (fun h2 => ?_)
    rotate_left
    · simp only [go_sem]
      simp only [aresult, ares, go_sem]
      rw [hall, es, h2]; simp
    simp only [go_sem]
    first | refine t_case_dec (fun h4 => ?_) (fun h4 => ?_) | refine t_case_ndec (fun h4 => ?_) (fun h4 => ?_) | refine t_case_eqI (fun h4 => ?_) (fun h4 => ?_) | refine t_case_neI (fun h4 => ?_) (fun h4 => ?_) | refine t_case_not (fun h4 => ?_) (fun h4 => ?_) | refine t_case_intro (fun h4 => ?_) (fun h4 => ?_)
    rotate_left
    · have hk0 : k = 0 := by omega
      have epp : pp l k = none := by rw [hk0]; rfl
      simp only [ew, go_sem]
      refine t_round (k + 1) ⟨by omega, by rw [hall, es, h2, epp]; simp [prStep, ← epp]⟩ (by omega) (by simp) rfl rfl (by simp) rfl
    have hk1 : 0 < k := by omega
    have ew' := unwrap1 k hk1 (by omega)
    have hlt1 : k - 1 < l.length := by omega
    have h8 : ((k - 1 : Nat) : Int) < (l.length : Int) := by omega
    have e1 := getD_map Pr.row l (k - 1) hlt1
    have er1 : l[k-1].row = [.str l[k-1].key, .int .i64 l[k-1].v.kind, .int .i64 l[k-1].v.n, .str l[k-1].v.s] := rfl
    have epp : pp l k = some l[k-1] := by
      obtain ⟨j, rfl⟩ : ∃ j, k = j + 1 := ⟨k - 1, by omega⟩
      simp [pp]
    simp only [ew', h8, h1, e, er, e1, er1, go_sem]
    first | refine t_case_dec (fun h9 => ?_) (fun h9 => ?_) | refine t_case_ndec (fun h9 => ?_) (fun h9 => ?_) | refine t_case_eqI (fun h9 => ?_) (fun h9 => ?_) | refine t_case_neI (fun h9 => ?_) (fun h9 => ?_) | refine t_case_not (fun h9 => ?_) (fun h9 => ?_) | refine t_case_intro (fun h9 => ?_) (fun h9 => ?_)
    · simp only [go_sem]
      simp only [aresult, ares, go_sem]
      rw [hall, es, epp]; simp only [prStep, strGt]; simp [h9]
    · simp only [ew, go_sem]
      refine t_round (k + 1) ⟨by omega, by rw [hall, es, h2, epp]; simp only [prStep, strGt]; simp [h9]⟩ (by omega) (by simp) rfl rfl (by simp) rfl
  · have h1 : ¬ (k : Int) < (l.length : Int) := by omega
    simp only [h1, go_sem]
    simp only [aresult, ares, go_sem]
    rw [List.drop_eq_nil_of_le (by omega)] at hall
    rw [hall]; rfl

set_option maxRecDepth 100000 in
set_option maxHeartbeats 2000000 in
theorem rwrites_den (l : List Pr) (hl : l.length * 40 ≤ 140737488351232) (hf : ∀ p ∈ l, p.fit) : PDen Try.prog 30 [.a (.slice 4 (l.map Pr.row))] (.a (.bool (writesGo none l))) := by
  rw [writes_split]
  refine den_of_body k_ref06_ValidWrites ⟨rfl, Nat.le_of_ble_eq_true rfl, thaw_intro ?_⟩
  unfold c_ref06_ValidWrites
  simp only [go_sem]
  refine t_loop_intro (fun k : Nat => k ≤ l.length ∧ (l.all (fun p => valV p.v) = (l.drop k).all (fun p => valV p.v))) (fun k => l.length - k) 0 [2, 3, 4, 5, 6, 7, 8, 9, 10, 11, 12, 13, 14, 15, 16] (fun k => [(3, .a (.int .i64 k))]) ⟨by omega, by rfl⟩ (by simp) (fun k => by simp) rfl ?_
  intro k hk0 fr_ hfr
  have hk : k ≤ l.length := hk0.1
  have hall := hk0.2
  clear hk0
  simp only [go_sem] at hfr
  subst hfr
  by_cases hlt : k < l.length
  · have h1 : (k : Int) < (l.length : Int) := by omega
    have e := getD_map Pr.row l k hlt
    have er : l[k].row = [.str l[k].key, .int .i64 l[k].v.kind, .int .i64 l[k].v.n, .str l[k].v.s] := rfl
    have ew := wrap1 k l.length hlt (by omega)
    have es := allD_step (fun p : Pr => valV p.v) l k hlt
    have hfk := hf _ (List.getElem_mem hlt)
    simp only [h1, e, er, go_sem]
    refine t_call_intro (rvalV_den l[k].v hfk.2) ?_
    simp only [go_sem]
    first | refine t_case_dec (fun h2 => ?_) (fun h2 => ?_) | refine t_case_ndec (fun h2 => ?_) (fun h2 => ?_) | refine t_case_eqI (fun h2 => ?_) (fun h2 => ?_) | refine t_case_neI (fun h2 => ?_) (fun h2 => ?_) | refine t_case_not (fun h2 => ?_) (fun h2 => ?_) | refine t_case_intro (fun h2 => ?_) (fun h2 => ?_)
    rotate_left
    · simp only [go_sem]
      simp only [aresult, ares, go_sem]
      rw [hall, es, h2]; simp
    simp only [ew, go_sem]
    refine t_round (k + 1) ⟨by omega, by rw [hall, es, h2]; rfl⟩ (by omega) (by simp) rfl rfl (by simp) rfl
  · have h1 : ¬ (k : Int) < (l.length : Int) := by omega
    simp only [h1, go_sem]
    refine t_call_intro (rasc_den l hl hf) ?_
    simp only [go_sem]
    simp only [aresult, ares, go_sem]
    rw [hall, List.drop_eq_nil_of_le (by omega)]; simp

def fewP (l : List Pr) (n : Int) : Bool := decide ((l.length : Int) ≤ n) && l.all fun p => decide (p.key.size ≤ 200) && decide (p.v.s.size ≤ 200)
set_option maxRecDepth 100000 in
set_option maxHeartbeats 2000000 in
theorem fewP_den (l : List Pr) (hl : l.length * 40 ≤ 140737488351232) (n : Int) : PDen Try.prog 7 [.a (.slice 4 (l.map Pr.row)), .a (.int .i64 n)] (.a (.bool (fewP l n))) := by
  refine den_of_body k_ref22_FewPairs ⟨rfl, Nat.le_of_ble_eq_true rfl, thaw_intro ?_⟩
  unfold c_ref22_FewPairs
  simp only [go_sem]
  first | refine t_case_dec (fun h0 => ?_) (fun h0 => ?_) | refine t_case_ndec (fun h0 => ?_) (fun h0 => ?_) | refine t_case_eqI (fun h0 => ?_) (fun h0 => ?_) | refine t_case_neI (fun h0 => ?_) (fun h0 => ?_) | refine t_case_not (fun h0 => ?_) (fun h0 => ?_) | refine t_case_intro (fun h0 => ?_) (fun h0 => ?_)
  · simp only [go_sem]
    simp only [aresult, ares, go_sem]
    simp [fewP]; omega
  simp only [go_sem]
  have eS : fewP l n = l.all (fun p => decide (p.key.size ≤ 200) && decide (p.v.s.size ≤ 200)) := by simp [fewP]; omega
  refine t_loop_intro (fun k : Nat => k ≤ l.length ∧ (l.all (fun p => decide (p.key.size ≤ 200) && decide (p.v.s.size ≤ 200)) = (l.drop k).all (fun p => decide (p.key.size ≤ 200) && decide (p.v.s.size ≤ 200)))) (fun k => l.length - k) 0 [4, 5, 10, 11, 12, 13, 14, 15, 16, 17, 18, 19, 20, 21, 22, 23, 24, 25, 26, 27, 28, 29, 30, 31, 32] (fun k => [(5, .a (.int .i64 k))]) ⟨by omega, by simp⟩ (by simp) (fun k => by simp) rfl ?_
  intro k hk0 fr_ hfr
  have hk : k ≤ l.length := hk0.1
  have hall := hk0.2
  clear hk0
  simp only [go_sem] at hfr
  subst hfr
  by_cases hlt : k < l.length
  · have h1 : (k : Int) < (l.length : Int) := by omega
    have e := getD_map Pr.row l k hlt
    have er : l[k].row = [.str l[k].key, .int .i64 l[k].v.kind, .int .i64 l[k].v.n, .str l[k].v.s] := rfl
    have ew := wrap1 k l.length hlt (by omega)
    have es := allD_step (fun p : Pr => decide (p.key.size ≤ 200) && decide (p.v.s.size ≤ 200)) l k hlt
    simp only [h1, e, er, go_sem]
    first | refine t_case_dec (fun h2 => ?_) (fun h2 => ?_) | refine t_case_ndec (fun h2 => ?_) (fun h2 => ?_) | refine t_case_eqI (fun h2 => ?_) (fun h2 => ?_) | refine t_case_neI (fun h2 => ?_) (fun h2 => ?_) | refine t_case_not (fun h2 => ?_) (fun h2 => ?_) | refine t_case_intro (fun h2 => ?_) (fun h2 => ?_)
    · simp only [go_sem]
      simp only [aresult, ares, go_sem]
      have h3 : ¬ l[k].key.size ≤ 200 := by omega
      rw [eS, hall, es]; simp [h3]
    simp only [h1, e, er, go_sem]
    first | refine t_case_dec (fun h3 => ?_) (fun h3 => ?_) | refine t_case_ndec (fun h3 => ?_) (fun h3 => ?_) | refine t_case_eqI (fun h3 => ?_) (fun h3 => ?_) | refine t_case_neI (fun h3 => ?_) (fun h3 => ?_) | refine t_case_not (fun h3 => ?_) (fun h3 => ?_) | refine t_case_intro (fun h3 => ?_) (fun h3 => ?_)
    · simp only [go_sem]
      simp only [aresult, ares, go_sem]
      have h4 : ¬ l[k].v.s.size ≤ 200 := by omega
      rw [eS, hall, es]; simp [h4]
    simp only [ew, go_sem]
    refine t_round (k + 1) ⟨by omega, by rw [hall, es]; simp; omega⟩ (by omega) (by simp) rfl rfl (by simp) rfl
  · have h1 : ¬ (k : Int) < (l.length : Int) := by omega
    simp only [h1, go_sem]
    simp only [aresult, ares, go_sem]
    rw [eS, hall, List.drop_eq_nil_of_le (by omega)]; rfl

/-! A store is equal to itself. -/
theorem zip_self {α : Type} (f : α × α → Bool) (h : ∀ x, f (x, x) = true) : ∀ l : List α, (l.zip l).all f = true
  | [] => rfl
  | x :: xs => by rw [List.zip_cons_cons, List.all_cons, h, zip_self f h xs]; rfl
theorem storeEq_self (s : Store) : storeEq s s = true := by
  have hv : ∀ x : Ver, verEq x x = true := fun x => by simp [verEq, vlEq]
  have hr : ∀ x : Row, rowEq x x = true := fun x => by
    have := zip_self (fun z : Ver × Ver => verEq z.1 z.2) (fun x => hv x) x.vs
    simp only [rowEq, versEq, this]; simp
  have := zip_self (fun z : Row × Row => rowEq z.1 z.2) (fun x => hr x) s.rows
  simp only [storeEq, rowsEq, this]; simp
def newB (l : List Pr) (at_ : Int) : Store := if newOk l at_ = true then newS l at_ else zeroS
def newE (l : List Pr) (at_ : Int) : Int := if newOk l at_ = true then 0 else 1
theorem newA_eq (l : List Pr) (at_ : Int) : newA l at_ = .tup [.agg (newB l at_).row, .a (.int .i64 (newE l at_))] := by
  unfold newA newB newE
  by_cases h : newOk l at_ = true
  · simp [h]
  · simp [h]
theorem newB_small (l : List Pr) (at_ : Int) (hl : l.length * 40 ≤ 140737488351232) : (newB l at_).rows.length * 40 ≤ 140737488351232 ∧ ∀ r ∈ (newB l at_).rows, r.vs.length * 40 ≤ 140737488351232 := by
  unfold newB
  split
  · refine ⟨by simp [newS]; omega, fun r hr => ?_⟩
    simp only [newS, List.mem_map] at hr
    obtain ⟨p, _, rfl⟩ := hr
    simp [newRow]
  · exact ⟨by simp [zeroS], fun r hr => by simp [zeroS] at hr⟩
end Go.Proofs.Ytlfebjehmabejaa
