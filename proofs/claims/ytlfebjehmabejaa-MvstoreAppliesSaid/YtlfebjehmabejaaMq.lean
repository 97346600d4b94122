/- Chapter 22: the reference's Apply. -/
import Derived.Test.YtlfebjehmabejaaMp
import Derived.Test.YtlfebjehmabejaaMsn
import Derived.Test.YtlfebjehmabejaaCodd
set_option linter.unusedSimpArgs false
set_option linter.unusedVariables false
namespace Go.Proofs.Ytlfebjehmabejaa
open Go Ab
set_option maxRecDepth 100000
attribute [local irreducible] awp aops aop asoft aeff aloop acall acallI acallT
attribute [local go_sem] Vl.row Ver.row Row.row Store.row Pr.row

def kRow (k : ByteArray) : List Atom := [.str k]
def loK (key : ByteArray) : List ByteArray → Nat
  | [] => 0
  | r :: rs => if bl' r key = true then loK key rs + 1 else 0
def insK (k : ByteArray) : List ByteArray → List ByteArray
  | [] => [k]
  | x :: xs => if bl' x k = true then x :: insK k xs else if x = k then x :: xs else k :: x :: xs
theorem loK_le (key : ByteArray) : ∀ l : List ByteArray, loK key l ≤ l.length
  | [] => Nat.le_refl _
  | x :: xs => by
    have := loK_le key xs
    unfold loK; split
    · simp only [List.length_cons]; omega
    · exact Nat.zero_le _
theorem loK_step (key : ByteArray) (l : List ByteArray) (k : Nat) (h : k < l.length) : loK key (l.drop k) = if bl' l[k] key = true then loK key (l.drop (k + 1)) + 1 else 0 := by
  rw [List.drop_eq_getElem_cons h]; rfl
theorem insK_hit (k : ByteArray) : ∀ (l : List ByteArray) (hl : loK k l < l.length), l[loK k l] = k → insK k l = l
  | x :: xs, hl, h => by
    unfold insK
    by_cases hx : bl' x k = true
    · have e : loK k (x :: xs) = loK k xs + 1 := by simp only [loK]; rw [if_pos hx]
      rw [if_pos hx]
      simp only [e, List.getElem_cons_succ] at h
      rw [insK_hit k xs (by rw [e] at hl; simpa using hl) h]
    · have e : loK k (x :: xs) = 0 := by simp only [loK]; rw [if_neg hx]
      simp only [e, List.getElem_cons_zero] at h
      rw [if_neg hx, if_pos h]
theorem insK_miss (k : ByteArray) : ∀ (l : List ByteArray), (∀ hl : loK k l < l.length, l[loK k l] ≠ k) → insK k l = l.take (loK k l) ++ [k] ++ l.drop (loK k l)
  | [], _ => rfl
  | x :: xs, h => by
    unfold insK
    by_cases hx : bl' x k = true
    · have e : loK k (x :: xs) = loK k xs + 1 := by simp only [loK]; rw [if_pos hx]
      rw [if_pos hx, e, insK_miss k xs (fun hl => by
        have := h (by rw [e]; simpa using hl)
        simpa [e] using this)]
      rfl
    · have e : loK k (x :: xs) = 0 := by simp only [loK]; rw [if_neg hx]
      rw [if_neg hx, e, if_neg (by
        have := h (by rw [e]; simp)
        simpa [e] using this)]
      simp
set_option maxHeartbeats 2000000 in
theorem rinsert_den (l : List ByteArray) (k : ByteArray) (hl : l.length ≤ 3000000000000) :
    PDen Try.prog 31 [.a (.slice 1 (l.map kRow)), .a (.str k)] (.a (.slice 1 ((insK k l).map kRow))) := by
  have hle := loK_le k l
  refine den_of_body k_ref04_Insert ⟨rfl, Nat.le_of_ble_eq_true rfl, thaw_intro ?_⟩
  unfold c_ref04_Insert
  simp only [go_sem]
  refine t_loop_intro (fun j : Nat => j ≤ l.length ∧ (loK k l = j + loK k (l.drop j))) (fun j => l.length - j) 0 [5, 7, 8, 9, 10, 11, 12, 13, 14, 15, 16, 17, 18, 19, 20] (fun j => [(5, .a (.int .i64 j))]) ⟨by omega, by simp⟩ (by simp) (fun j => by simp) rfl ?_
  intro j hk0j fr_ hfr
  have hkj : j ≤ l.length := hk0j.1
  have hallj := hk0j.2
  clear hk0j
  simp only [go_sem] at hfr
  subst hfr
  by_cases hltj : j < l.length
  · have h3 : (j : Int) < (l.length : Int) := by omega
    have ew := wrap1 j l.length hltj (by omega)
    have e := getD_map kRow l j hltj
    have er : kRow l[j] = [.str l[j]] := rfl
    have es := loK_step k l j hltj
    simp only [h3, e, er, go_sem]
    by_cases h4 : bl' l[j] k = true
    · have h5 : Op.bytesLess l[j].toList k.toList = true := h4
      rw [if_pos h4] at es
      simp only [h5, ew, go_sem]
      refine t_round (j + 1) ⟨by omega, by omega⟩ (by omega) (by simp) rfl rfl (by simp) rfl
    · have h5 : Op.bytesLess l[j].toList k.toList = false := by simpa [bl'] using h4
      rw [if_neg h4] at es
      have hke : loK k l = j := by omega
      simp only [h5, h3, e, er, go_sem]
      by_cases h6 : l[j] = k
      · have h7 : (l[j].toList == k.toList) = true := by rw [h6]; simp
        have hi := insK_hit k l (by rw [hke]; exact hltj) (by simp only [hke]; exact h6)
        simp only [h7, go_sem]
        simp only [aresult, ares, go_sem]
        rw [hi]
      · have h7 : (l[j].toList == k.toList) = false := by
          rw [beq_eq_false_iff_ne]
          exact fun q => h6 (ba_ext q)
        have hi := insK_miss k l (fun _ => by simp only [hke]; exact h6)
        rw [hke] at hi
        have htl : ((l.map kRow).take j).length = j := by rw [List.length_take, List.length_map]; omega
        have hdl : ((l.map kRow).drop j).length = l.length - j := by rw [List.length_drop, List.length_map]
        simp only [h7, go_sem]
        refine t_gate_intro (by first | (simp; done) | (simp; omega)) ?_
        simp only [go_sem]
        refine t_gate_intro (by first | (simp; done) | (simp; omega)) ?_
        simp only [go_sem]
        refine t_gate_intro (by first | (simp; done) | (simp; omega)) ?_
        simp only [go_sem]
        refine t_gate_intro (by first | (simp; done) | (simp; omega)) ?_
        simp only [go_sem]
        refine t_gate_intro (by first | (simp; done) | (simp; omega)) ?_
        simp only [aresult, ares, go_sem]
        rw [hi]
        have ett : (l.map kRow).take l.length = l.map kRow := List.take_of_length_le (by simp)
        simp [kRow, ett]
  · have h3 : ¬ (j : Int) < (l.length : Int) := by omega
    rw [List.drop_eq_nil_of_le (by omega)] at hallj
    have hke : loK k l = l.length := by rw [hallj]; show j + 0 = _; omega
    have hi := insK_miss k l (fun q => by omega)
    have ej : j = l.length := by omega
    subst ej
    rw [hke] at hi
    have htl : ((l.map kRow).take l.length).length = l.length := by rw [List.length_take, List.length_map]; omega
    have hdl : ((l.map kRow).drop l.length).length = 0 := by rw [List.length_drop, List.length_map]; omega
    simp only [h3, go_sem]
    refine t_gate_intro (by first | (simp; done) | (simp; omega)) ?_
    simp only [go_sem]
    refine t_gate_intro (by first | (simp; done) | (simp; omega)) ?_
    simp only [go_sem]
    refine t_gate_intro (by first | (simp; done) | (simp; omega)) ?_
    simp only [go_sem]
    refine t_gate_intro (by first | (simp; done) | (simp; omega)) ?_
    simp only [go_sem]
    refine t_gate_intro (by first | (simp; done) | (simp; omega)) ?_
    simp only [aresult, ares, go_sem]
    rw [hi]
    have ett : (l.map kRow).take l.length = l.map kRow := List.take_of_length_le (by simp)
    simp [kRow, ett]

/-! The row of a key -/
def fndR (rows : List Row) (key : ByteArray) : Row := match rowOf rows key with | none => ⟨key, []⟩ | some r => r
theorem rowOf_drop (rows : List Row) (key : ByteArray) (k : Nat) (h : k < rows.length) : rowOf (rows.drop k) key = if rows[k].key = key then some rows[k] else rowOf (rows.drop (k + 1)) key := by
  rw [List.drop_eq_getElem_cons h, rowOf_cons]
theorem fndR_key (rows : List Row) (key : ByteArray) : (fndR rows key).key = key := by
  unfold fndR
  cases h : rowOf rows key with
  | none => rfl
  | some r => exact (rowOf_mem h).2
set_option maxHeartbeats 2000000 in
theorem rfind_den (s : Store) (hb : s.rows.length ≤ 3000000000000) (key : ByteArray) :
    PDen Try.prog 32 [.agg s.row, .a (.str key)] (.agg (fndR s.rows key).row) := by
  unfold fndR
  cases hr : rowOf s.rows key with
  | none =>
    refine PDen.le (r := .agg [.str key, .nils]) ?_ (VLe.agg ⟨RLe.refl _, RLe.nils 4, trivial⟩)
    refine den_of_body k_ref22_find ⟨rfl, Nat.le_of_ble_eq_true rfl, thaw_intro ?_⟩
    unfold c_ref22_find
    simp only [go_sem]
    refine t_loop_intro (fun j : Nat => j ≤ s.rows.length ∧ (rowOf (s.rows.drop j) key = none)) (fun j => s.rows.length - j) 0 [5, 6, 7, 8, 9, 10, 11, 12, 13, 14, 15, 16, 17, 18, 19, 20, 21, 22, 23, 24, 25] (fun j => [(5, .a (.int .i64 j))]) ⟨by omega, by exact hr⟩ (by simp) (fun j => by simp) rfl ?_
    intro j hk0j fr_ hfr
    have hkj : j ≤ s.rows.length := hk0j.1
    have hallj := hk0j.2
    clear hk0j
    simp only [go_sem] at hfr
    subst hfr
    by_cases hltj : j < s.rows.length
    · have h3 : (j : Int) < (s.rows.length : Int) := by omega
      have ew := wrap1 j s.rows.length hltj (by omega)
      have e := getD_map Row.row s.rows j hltj
      have er : s.rows[j].row = [.str s.rows[j].key, .slice 4 (s.rows[j].vs.map Ver.row)] := rfl
      have es := rowOf_drop s.rows key j hltj
      rw [hallj] at es
      have hk : ¬ s.rows[j].key = key := fun q => by rw [if_pos q] at es; cases es
      rw [if_neg hk] at es
      have h4 : (s.rows[j].key.toList == key.toList) = false := by
        rw [beq_eq_false_iff_ne]
        exact fun q => hk (ba_ext q)
      simp only [h3, e, er, h4, ew, go_sem]
      refine t_round (j + 1) ⟨by omega, es.symm⟩ (by omega) (by simp) rfl rfl (by simp) rfl
    · have h3 : ¬ (j : Int) < (s.rows.length : Int) := by omega
      simp only [h3, go_sem]
      simp only [aresult, ares, go_sem]
  | some r =>
    refine den_of_body k_ref22_find ⟨rfl, Nat.le_of_ble_eq_true rfl, thaw_intro ?_⟩
    unfold c_ref22_find
    simp only [go_sem]
    refine t_loop_intro (fun j : Nat => j ≤ s.rows.length ∧ (rowOf (s.rows.drop j) key = some r)) (fun j => s.rows.length - j) 0 [5, 6, 7, 8, 9, 10, 11, 12, 13, 14, 15, 16, 17, 18, 19, 20, 21, 22, 23, 24, 25] (fun j => [(5, .a (.int .i64 j))]) ⟨by omega, by exact hr⟩ (by simp) (fun j => by simp) rfl ?_
    intro j hk0j fr_ hfr
    have hkj : j ≤ s.rows.length := hk0j.1
    have hallj := hk0j.2
    clear hk0j
    simp only [go_sem] at hfr
    subst hfr
    by_cases hltj : j < s.rows.length
    · have h3 : (j : Int) < (s.rows.length : Int) := by omega
      have ew := wrap1 j s.rows.length hltj (by omega)
      have e := getD_map Row.row s.rows j hltj
      have er : s.rows[j].row = [.str s.rows[j].key, .slice 4 (s.rows[j].vs.map Ver.row)] := rfl
      have es := rowOf_drop s.rows key j hltj
      rw [hallj] at es
      by_cases hk : s.rows[j].key = key
      · rw [if_pos hk] at es
        have h4 : (s.rows[j].key.toList == key.toList) = true := by rw [hk]; simp
        cases es
        simp only [h3, e, er, h4, go_sem]
        simp only [aresult, ares, go_sem]
      · rw [if_neg hk] at es
        have h4 : (s.rows[j].key.toList == key.toList) = false := by
          rw [beq_eq_false_iff_ne]
          exact fun q => hk (ba_ext q)
        simp only [h3, e, er, h4, ew, go_sem]
        refine t_round (j + 1) ⟨by omega, es.symm⟩ (by omega) (by simp) rfl rfl (by simp) rfl
    · rw [List.drop_eq_nil_of_le (by omega)] at hallj
      cases hallj

end Go.Proofs.Ytlfebjehmabejaa
