/- The reference's keys and values: the same answers as the program's. -/
import Derived.Test.YtlfebjehmabejaaMv
set_option linter.unusedSimpArgs false
set_option linter.unusedVariables false
namespace Go.Proofs.Ytlfebjehmabejaa
open Go Ab
attribute [local irreducible] awp aops aop asoft aeff aloop acall

theorem all_step {α : Type} (p : α → Bool) (l : List α) (k : Nat) (h : k < l.length) : (l.take (k + 1)).all p = ((l.take k).all p && p l[k]) := by
  rw [List.take_succ_eq_append_getElem h, List.all_append]; simp
theorem all_no {α : Type} (p : α → Bool) (l : List α) (k : Nat) (h : k < l.length) (hx : p l[k] = false) : l.all p = false := by
  rw [List.all_eq_false]; exact ⟨l[k], List.getElem_mem h, by rw [hx]; simp⟩
theorem size0 (s : ByteArray) : (s.toList == []) = decide (s.size = 0) := by
  have h := dsize s
  rw [ByteArray.toList_eq]
  cases hl : s.data.toList with
  | nil => rw [hl] at h; rw [decide_eq_true (by simpa using h.symm)]; rfl
  | cons a l => rw [hl] at h; rw [decide_eq_false (by simp only [List.length_cons] at h; omega)]; rfl
theorem getD_get {α : Type} (l : List α) (d : α) (k : Nat) (h : k < l.length) : l.getD k d = l[k] := by
  rw [List.getD_eq_getElem?_getD, List.getElem?_eq_getElem h]; rfl

set_option maxRecDepth 100000 in
set_option maxHeartbeats 1000000 in
theorem rkeyV_den (s : ByteArray) (hs : s.size ≤ 9223372036854775807) : PDen Try.prog 69 [.a (.str s)] (.a (.bool (keyV s))) := by
  refine den_of_body k_ref04_Valid ⟨rfl, Nat.le_of_ble_eq_true rfl, thaw_intro ?_⟩
  unfold c_ref04_Valid
  simp only [go_sem]
  have hsz := dsize s
  refine t_loop_intro (fun k : Nat => k ≤ s.size ∧ ((s.data.toList.take k).all keyB = true)) (fun k => s.size - k) 0 [2, 3, 4, 5, 6, 7, 8, 9, 10, 11, 12, 13, 14, 15, 16, 17, 18, 19, 20, 21, 22, 23, 24, 25, 26, 27, 28, 29, 30, 31, 32, 33, 34, 35, 36, 37, 38, 39, 40, 41, 42, 43] (fun k => [(3, .a (.int .i64 k))]) ⟨by omega, by simp⟩ (by simp) (fun k => by simp) rfl ?_
  intro k hk0 fr_ hfr
  have hk : k ≤ s.size := hk0.1
  have hall := hk0.2
  clear hk0
  simp only [go_sem] at hfr
  subst hfr
  by_cases hlt : k < s.size
  · have h1 : (k : Int) < (s.size : Int) := by omega
    have ew := wrap1 k s.size hlt hs
    have hlt' : k < s.data.toList.length := by omega
    have e := getD_get s.data.toList 0 k hlt'
    have es := all_step keyB s.data.toList k hlt'
    have ef : keyB s.data.toList[k] = false → keyV s = false := fun hx => by
      unfold keyV bytesOk; rw [all_no _ _ _ hlt' hx]; simp
    simp only [h1, e, go_sem]
    generalize s.data.toList[k] = c at *
    repeat' ((first | refine t_case_dec (fun hc => ?_) (fun hc => ?_) | refine t_case_ndec (fun hc => ?_) (fun hc => ?_) | refine t_case_eqI (fun hc => ?_) (fun hc => ?_) | refine t_case_neI (fun hc => ?_) (fun hc => ?_) | refine t_case_not (fun hc => ?_) (fun hc => ?_) | refine t_case_intro (fun hc => ?_) (fun hc => ?_)) <;> try simp only [ew, go_sem])
    all_goals first
      | (have hx : keyB c = false := by (simp [keyB]; omega)
         simp only [aresult, ares, go_sem]; rw [ef hx])
      | (have hx : keyB c = true := by (simp [keyB]; omega)
         refine t_round (k + 1) ⟨by omega, by rw [es, hall, hx]; rfl⟩ (by omega) (by simp) rfl rfl (by simp) rfl
        )
  · have h1 : ¬ (k : Int) < (s.size : Int) := by omega
    rw [List.take_of_length_le (by omega)] at hall
    simp only [h1, go_sem]
    repeat' ((first | refine t_case_dec (fun hc => ?_) (fun hc => ?_) | refine t_case_ndec (fun hc => ?_) (fun hc => ?_) | refine t_case_eqI (fun hc => ?_) (fun hc => ?_) | refine t_case_neI (fun hc => ?_) (fun hc => ?_) | refine t_case_not (fun hc => ?_) (fun hc => ?_) | refine t_case_intro (fun hc => ?_) (fun hc => ?_)) <;> try simp only [go_sem])
    all_goals simp only [aresult, ares, go_sem]
    all_goals (congr 3; unfold keyV bytesOk; rw [hall, size0 s]; generalize s.size = n at *; rw [Bool.eq_iff_iff]; simp; omega)

set_option maxRecDepth 100000 in
set_option maxHeartbeats 1000000 in
theorem rplainV_den (s : ByteArray) (hs : s.size ≤ 9223372036854775807) : PDen Try.prog 71 [.a (.str s)] (.a (.bool (plainV s))) := by
  refine den_of_body k_ref05_Plain ⟨rfl, Nat.le_of_ble_eq_true rfl, thaw_intro ?_⟩
  unfold c_ref05_Plain
  simp only [go_sem]
  have hsz := dsize s
  refine t_case_dec (fun h => ?_) (fun h => ?_)
  · simp only [go_sem]
    simp only [aresult, ares, go_sem]
    congr 3; unfold plainV; simp; omega
  simp only [go_sem]
  refine t_loop_intro (fun k : Nat => k ≤ s.size ∧ ((s.data.toList.take k).all plainB = true)) (fun k => s.size - k) 0 [2, 3, 7, 8, 9, 10, 11, 12, 13, 14, 15, 16, 17, 18, 19, 20, 21, 22] (fun k => [(3, .a (.int .i64 k))]) ⟨by omega, by simp⟩ (by simp) (fun k => by simp) rfl ?_
  intro k hk0 fr_ hfr
  have hk : k ≤ s.size := hk0.1
  have hall := hk0.2
  clear hk0
  simp only [go_sem] at hfr
  subst hfr
  by_cases hlt : k < s.size
  · have h1 : (k : Int) < (s.size : Int) := by omega
    have ew := wrap1 k s.size hlt hs
    have hlt' : k < s.data.toList.length := by omega
    have e := getD_get s.data.toList 0 k hlt'
    have es := all_step plainB s.data.toList k hlt'
    have ef : plainB s.data.toList[k] = false → plainV s = false := fun hx => by
      unfold plainV; rw [all_no _ _ _ hlt' hx]; simp
    simp only [h1, e, go_sem]
    generalize s.data.toList[k] = c at *
    repeat' ((first | refine t_case_dec (fun hc => ?_) (fun hc => ?_) | refine t_case_ndec (fun hc => ?_) (fun hc => ?_) | refine t_case_eqI (fun hc => ?_) (fun hc => ?_) | refine t_case_neI (fun hc => ?_) (fun hc => ?_) | refine t_case_not (fun hc => ?_) (fun hc => ?_) | refine t_case_intro (fun hc => ?_) (fun hc => ?_)) <;> try simp only [h1, e, ew, go_sem])
    all_goals first
      | (have hx : plainB c = false := by (simp [plainB]; omega)
         simp only [aresult, ares, go_sem]; rw [ef hx])
      | (have hx : plainB c = true := by (simp [plainB]; omega)
         refine t_round (k + 1) ⟨by omega, by rw [es, hall, hx]; rfl⟩ (by omega) (by simp) rfl rfl (by simp) rfl
        )
  · have h1 : ¬ (k : Int) < (s.size : Int) := by omega
    rw [List.take_of_length_le (by omega)] at hall
    simp only [h1, go_sem]
    simp only [aresult, ares, go_sem]
    congr 3; unfold plainV; rw [hall]; simp; omega

set_option maxRecDepth 100000 in
theorem rvalV_den (v : Vl) (hs : v.s.size ≤ 9223372036854775807) : PDen Try.prog 58 [.agg v.row] (.a (.bool (valV v))) := by
  refine den_of_body k_ref05_Valid ⟨rfl, Nat.le_of_ble_eq_true rfl, thaw_intro ?_⟩
  unfold c_ref05_Valid
  unfold Vl.row
  simp only [go_sem]
  refine t_case_eqI (fun h1 => ?_) (fun h1 => ?_)
  · simp only [go_sem]
    repeat' ((first | refine t_case_dec (fun hc => ?_) (fun hc => ?_) | refine t_case_ndec (fun hc => ?_) (fun hc => ?_) | refine t_case_eqI (fun hc => ?_) (fun hc => ?_) | refine t_case_neI (fun hc => ?_) (fun hc => ?_) | refine t_case_not (fun hc => ?_) (fun hc => ?_) | refine t_case_intro (fun hc => ?_) (fun hc => ?_)) <;> try simp only [go_sem])
    all_goals simp only [aresult, ares, go_sem]
    all_goals simp_all [valV]
  · simp only [go_sem]
    refine t_case_eqI (fun h2 => ?_) (fun h2 => ?_)
    · simp only [go_sem]
      simp only [aresult, ares, go_sem]
      simp [valV, h2]
    · simp only [go_sem]
      refine t_case_eqI (fun h3 => ?_) (fun h3 => ?_)
      · simp only [go_sem]
        refine t_case_eqI (fun h4 => ?_) (fun h4 => ?_)
        · simp only [go_sem]
          refine t_call_intro (rplainV_den v.s hs) ?_
          simp only [go_sem]
          simp only [aresult, ares, go_sem]
          simp [valV, h3, h4]
        · simp only [go_sem]
          simp only [aresult, ares, go_sem]
          simp [valV, h3, h4]
      · simp only [go_sem]
        simp only [aresult, ares, go_sem]
        simp [valV, h1, h2, h3]

set_option maxRecDepth 100000 in
theorem rstored_den (v : Vl) (hs : v.s.size ≤ 9223372036854775807) : PDen Try.prog 70 [.agg v.row] (.a (.bool (valV v))) := by
  refine den_of_body k_ref22_stored ⟨rfl, Nat.le_of_ble_eq_true rfl, thaw_intro ?_⟩
  unfold c_ref22_stored
  unfold Vl.row
  simp only [go_sem]
  refine t_call_intro (rvalV_den v hs) ?_
  simp only [go_sem]
  simp only [aresult, ares, go_sem]
end Go.Proofs.Ytlfebjehmabejaa
