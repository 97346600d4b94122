/- The packages keys and value: what is valid. -/
import Derived.Test.YtldonmombfpleaaCode
import Derived.Test.YtldonmombfpleaaAbO
import Derived.Test.YtldonmombfpleaaAbS
set_option linter.unusedSimpArgs false
set_option linter.unusedVariables false
namespace Go.Proofs.Ytldonmombfpleaa
open Go Ab
attribute [local irreducible] awp aops aop asoft aeff aloop acall

def keyB (c : UInt8) : Bool :=
  (decide (97 ≤ (c.toNat : Int)) && decide ((c.toNat : Int) ≤ 122)) || (decide (48 ≤ (c.toNat : Int)) && decide ((c.toNat : Int) ≤ 57)) || ((c.toNat : Int) == 47) || ((c.toNat : Int) == 46) || ((c.toNat : Int) == 95) || ((c.toNat : Int) == 45)
def boundB (c : UInt8) : Bool := decide (33 ≤ (c.toNat : Int)) && decide ((c.toNat : Int) ≤ 126)
def bytesOk (s : ByteArray) (ok : UInt8 → Bool) : Bool := decide (s.size ≤ 24) && s.data.toList.all ok
def keyV (s : ByteArray) : Bool := !(s.toList == []) && bytesOk s keyB
def boundV (s : ByteArray) : Bool := bytesOk s boundB

theorem wrap1 (k n : Nat) (h : k < n) (hn : n ≤ 9223372036854775807) : IntKind.i64.wrap ((k : Int) + 1) = ((k + 1 : Nat) : Int) := by
  rw [IntKind.wrap_i64]; omega
theorem dsize (s : ByteArray) : s.data.toList.length = s.size := by simp

set_option maxRecDepth 100000 in
set_option maxHeartbeats 1000000 in
theorem keyB_den (c : UInt8) : PDen Try.prog 85 [.a (.int .u8 c.toNat)] (.a (.bool (keyB c))) := by
  refine den_of_body k_keys_Valid_1 ⟨rfl, Nat.le_of_ble_eq_true rfl, thaw_intro ?_⟩
  unfold c_keys_Valid_1 keyB
  simp only [go_sem]
  repeat' (refine t_case_intro (fun _ => ?_) (fun _ => ?_) <;> simp only [go_sem])
  all_goals simp only [aresult, ares, go_sem]
  all_goals (simp_all <;> omega)

set_option maxRecDepth 100000 in
theorem boundB_den (c : UInt8) : PDen Try.prog 88 [.a (.int .u8 c.toNat)] (.a (.bool (boundB c))) := by
  refine den_of_body k_keys_isBound_1 ⟨rfl, Nat.le_of_ble_eq_true rfl, thaw_intro ?_⟩
  unfold c_keys_isBound_1 boundB
  simp only [go_sem]
  repeat' (refine t_case_intro (fun _ => ?_) (fun _ => ?_) <;> simp only [go_sem])
  all_goals simp only [aresult, ares, go_sem]
  all_goals (simp_all <;> omega)

set_option maxRecDepth 100000 in
set_option maxHeartbeats 400000 in
theorem consists_den (s : ByteArray) (hs : s.size ≤ 9223372036854775807) (f : FuncId) (ok : UInt8 → Bool) (hf : ∀ c : UInt8, PDen Try.prog f [.a (.int .u8 c.toNat)] (.a (.bool (ok c)))) (hb : bodied Try.prog f = true) :
    PDen Try.prog 84 [.a (.str s), .clo f []] (.a (.bool (bytesOk s ok))) := by
  refine den_of_body k_keys_consists ⟨rfl, Nat.le_of_ble_eq_true rfl, thaw_intro ?_⟩
  unfold c_keys_consists
  simp only [go_sem]
  refine t_case_intro (fun h => ?_) (fun h => ?_)
  · simp only [aresult, ares, go_sem]
    simp at h
    simp [bytesOk]; omega
  · simp only [go_sem]
    simp at h
    have hsz := dsize s
    refine t_loop_intro (fun k : Nat => k ≤ s.size ∧ (s.data.toList.take k).all ok = true) (fun k => s.size - k) 0 [4, 5, 11, 12, 13, 14, 15, 16, 17, 18, 19, 20] (fun k => [(11, .a (.int .i64 k))]) ⟨by omega, by simp⟩ (by simp) (fun k => by simp) rfl ?_
    intro k hk0 fr' hfr
    have hk : k ≤ s.size := hk0.1
    have hall : (s.data.toList.take k).all ok = true := hk0.2
    clear hk0
    simp only [go_sem] at hfr
    subst hfr
    by_cases hlt : k < s.size
    · have h1 : (k : Int) < (s.size : Int) := by omega
      have ew := wrap1 k s.size hlt hs
      have hlt' : k < s.data.toList.length := by omega
      have e : s.data.toList.getD k 0 = s.data.toList[k] := by rw [List.getD_eq_getElem?_getD, List.getElem?_eq_getElem hlt']; rfl
      have es : (s.data.toList.take (k + 1)).all ok = ((s.data.toList.take k).all ok && ok s.data.toList[k]) := by
        rw [List.take_succ_eq_append_getElem hlt', List.all_append]; simp
      have ef : ok s.data.toList[k] = false → bytesOk s ok = false := fun hx => by
        unfold bytesOk
        rw [Bool.and_eq_false_iff]; right
        rw [List.all_eq_false]
        exact ⟨s.data.toList[k], List.getElem_mem hlt', by rw [hx]; simp⟩
      simp only [h1, e, hb, go_sem]
      generalize s.data.toList[k] = c at *
      refine t_call_intro (hf c) ?_
      simp only [go_sem]
      refine t_case_intro (fun h2 => ?_) (fun h2 => ?_)
      · simp only [aresult, ares, go_sem]
        rw [ef (by simpa using h2)]
      · simp only [ew, go_sem]
        refine t_round (k + 1) ⟨by omega, ?_⟩ (by omega) (by simp) rfl rfl (by simp) rfl
        rw [es, hall]; simpa using h2
    · have h1 : ¬ (k : Int) < (s.size : Int) := by omega
      simp only [h1, go_sem]
      simp only [aresult, ares, go_sem]
      rw [List.take_of_length_le (by omega)] at hall
      simp [bytesOk, hall]; omega

theorem b_keyB : bodied Try.prog 85 = true := by kernel_rfl
theorem b_boundB : bodied Try.prog 88 = true := by kernel_rfl
theorem toList_nil : ByteArray.toList ⟨#[]⟩ = [] := by rw [ByteArray.toList_eq]

set_option maxRecDepth 100000 in
theorem keyV_den (s : ByteArray) (hs : s.size ≤ 9223372036854775807) : PDen Try.prog 64 [.a (.str s)] (.a (.bool (keyV s))) := by
  refine den_of_body k_keys_Valid ⟨rfl, Nat.le_of_ble_eq_true rfl, thaw_intro ?_⟩
  unfold c_keys_Valid
  simp only [go_sem]
  refine t_case_intro (fun h => ?_) (fun h => ?_) <;> simp only [go_sem]
  · refine t_call_intro (consists_den s hs _ keyB keyB_den b_keyB) ?_
    simp only [go_sem]
    simp only [aresult, ares, go_sem]
    rw [toList_nil] at h
    have h' : (s.toList == []) = false := by simpa using h
    rw [keyV, h']; rfl
  · simp only [aresult, ares, go_sem]
    rw [toList_nil] at h
    simp at h
    simp [keyV, h]

set_option maxRecDepth 100000 in
theorem boundV_den (s : ByteArray) (hs : s.size ≤ 9223372036854775807) : PDen Try.prog 70 [.a (.str s)] (.a (.bool (boundV s))) := by
  refine den_of_body k_keys_isBound ⟨rfl, Nat.le_of_ble_eq_true rfl, thaw_intro ?_⟩
  unfold c_keys_isBound
  simp only [go_sem]
  refine t_call_intro (consists_den s hs _ boundB boundB_den b_boundB) ?_
  simp only [go_sem]
  simp only [aresult, ares, go_sem]
  rfl

/-! Values -/
structure Vl where
  kind : Int
  n : Int
  s : ByteArray
def Vl.row (v : Vl) : List Atom := [.int .i64 v.kind, .int .i64 v.n, .str v.s]
def plainB (c : UInt8) : Bool := decide (32 ≤ (c.toNat : Int)) && decide ((c.toNat : Int) ≤ 126)
def plainV (s : ByteArray) : Bool := decide (s.size ≤ 64) && s.data.toList.all plainB
def valV (v : Vl) : Bool :=
  if v.kind = 0 then (v.n == 0) && (v.s.toList == [])
  else if v.kind = 1 then v.s.toList == []
  else if v.kind = 2 then (v.n == 0) && plainV v.s
  else false

set_option maxRecDepth 100000 in
set_option maxHeartbeats 400000 in
theorem plainV_den (s : ByteArray) (hs : s.size ≤ 9223372036854775807) : PDen Try.prog 75 [.a (.str s)] (.a (.bool (plainV s))) := by
  refine den_of_body k_value_plain ⟨rfl, Nat.le_of_ble_eq_true rfl, thaw_intro ?_⟩
  unfold c_value_plain
  simp only [go_sem]
  have hsz := dsize s
  refine t_loop_intro (fun k : Nat => k ≤ s.size ∧ (s.data.toList.take k).all plainB = true) (fun k => s.size - k) 0 [2, 3, 4, 5, 6, 7, 8, 9, 10, 11, 12, 13, 14, 15, 16, 17, 18, 19] (fun k => [(3, .a (.int .i64 k))]) ⟨by omega, by simp⟩ (by simp) (fun k => by simp) rfl ?_
  intro k hk0 fr' hfr
  have hk : k ≤ s.size := hk0.1
  have hall : (s.data.toList.take k).all plainB = true := hk0.2
  clear hk0
  simp only [go_sem] at hfr
  subst hfr
  by_cases hlt : k < s.size
  · have h1 : (k : Int) < (s.size : Int) := by omega
    have ew := wrap1 k s.size hlt hs
    have hlt' : k < s.data.toList.length := by omega
    have e : s.data.toList.getD k 0 = s.data.toList[k] := by rw [List.getD_eq_getElem?_getD, List.getElem?_eq_getElem hlt']; rfl
    have es : (s.data.toList.take (k + 1)).all plainB = ((s.data.toList.take k).all plainB && plainB s.data.toList[k]) := by
      rw [List.take_succ_eq_append_getElem hlt', List.all_append]; simp
    have ef : plainB s.data.toList[k] = false → plainV s = false := fun hx => by
      unfold plainV
      rw [Bool.and_eq_false_iff]; right
      rw [List.all_eq_false]
      exact ⟨s.data.toList[k], List.getElem_mem hlt', by rw [hx]; simp⟩
    simp only [h1, e, go_sem]
    generalize s.data.toList[k] = c at *
    refine t_case_intro (fun h2 => ?_) (fun h2 => ?_) <;> simp only [h1, e, go_sem]
    rotate_left
    · simp only [aresult, ares, go_sem]
      rw [ef (by simp at h2; simp [plainB]; omega)]
    · refine t_case_intro (fun h3 => ?_) (fun h3 => ?_) <;> simp only [ew, go_sem]
      · simp only [aresult, ares, go_sem]
        rw [ef (by simp at h3; simp [plainB]; omega)]
      · refine t_round (k + 1) ⟨by omega, ?_⟩ (by omega) (by simp) rfl rfl (by simp) rfl
        rw [es, hall]; simp at h2 h3; simp [plainB]; omega
  · have h1 : ¬ (k : Int) < (s.size : Int) := by omega
    simp only [h1, go_sem]
    simp only [aresult, ares, go_sem]
    rw [List.take_of_length_le (by omega)] at hall
    simp [plainV, hall]; omega

set_option maxRecDepth 100000 in
theorem valV_den (v : Vl) (hs : v.s.size ≤ 9223372036854775807) : PDen Try.prog 65 [.agg v.row] (.a (.bool (valV v))) := by
  refine den_of_body k_value_Valid ⟨rfl, Nat.le_of_ble_eq_true rfl, thaw_intro ?_⟩
  unfold c_value_Valid Vl.row
  simp only [go_sem]
  refine t_case_intro (fun h1 => ?_) (fun h1 => ?_) <;> simp only [go_sem]
  · simp only [aresult, ares, go_sem]
    rw [toList_nil]
    simp at h1
    simp [valV, h1]
  · refine t_case_intro (fun h2 => ?_) (fun h2 => ?_) <;> simp only [go_sem]
    · simp only [aresult, ares, go_sem]
      rw [toList_nil]
      simp at h1 h2
      simp [valV, h2]
    · refine t_case_intro (fun h3 => ?_) (fun h3 => ?_) <;> simp only [go_sem]
      · refine t_case_intro (fun h4 => ?_) (fun h4 => ?_) <;> simp only [go_sem]
        · refine t_call_intro (plainV_den v.s hs) ?_
          simp only [go_sem]
          simp only [aresult, ares, go_sem]
          simp at h3 h4
          simp [valV, h3, h4]
        · simp only [aresult, ares, go_sem]
          simp at h3 h4
          simp [valV, h3, h4]
      · simp only [aresult, ares, go_sem]
        simp at h1 h2 h3
        simp [valV, h1, h2, h3]
end Go.Proofs.Ytldonmombfpleaa
