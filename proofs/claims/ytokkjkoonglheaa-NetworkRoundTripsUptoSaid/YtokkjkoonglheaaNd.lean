/- Chapter 40: Decode of both. -/
import Derived.Test.YtokkjkoonglheaaNc
set_option linter.unusedSimpArgs false
set_option linter.unusedVariables false
namespace Go.Proofs.Ytokkjkoonglheaa
open Go Ab Go.RowKit
set_option maxRecDepth 100000
attribute [local irreducible] awp aops aop asoft aeff aloop acall acallI acallT
attribute [local go_sem] Msg.row itemsA

def takeI (l : List UInt8) (a : Int) : Int × Int × Int := takeIv (Cw.takeU l a)
def dT (l : List UInt8) (a : Int) := Cw.takeT l a 4096
def dIt (l : List UInt8) (a : Int) : Itm × Int × Int :=
  if (takeI l a).2.2 ≠ 0 then (⟨0, ⟨#[]⟩⟩, 0, (takeI l a).2.2)
  else (⟨(takeI l a).1, ⟨(dT l (takeI l a).2.1).1.toArray⟩⟩, (dT l (takeI l a).2.1).2.1, (dT l (takeI l a).2.1).2.2)
def nmS (l : List UInt8) (k : Nat) := stG (takeI l) 0 k
def itS (l : List UInt8) (a : Int) (k : Nat) := stG (dIt l) a k
def mC (l : List UInt8) (a : Int) := Cw.takeC l a 256
theorem mC_le (l : List UInt8) (a : Int) : ((mC l a).1 : Int) ≤ 256 := takeC_le l a 256 (by omega)
def mkM (vs : List Int) (ok : Bool) (its : List Itm) : Msg := ⟨vs.getD 0 0, vs.getD 1 0, vs.getD 2 0, vs.getD 3 0, vs.getD 4 0, vs.getD 5 0, vs.getD 6 0, ok, its⟩
def decM (l : List UInt8) : Msg × Int :=
  if (nmS l 7).2.2 ≠ 0 then (zeroM, (nmS l 7).2.2)
  else if (takeB l (nmS l 7).2.1).2.2 ≠ 0 then (zeroM, (takeB l (nmS l 7).2.1).2.2)
  else if (mC l (takeB l (nmS l 7).2.1).2.1).2.2 ≠ 0 then (zeroM, (mC l (takeB l (nmS l 7).2.1).2.1).2.2)
  else if (itS l (mC l (takeB l (nmS l 7).2.1).2.1).2.1 (mC l (takeB l (nmS l 7).2.1).2.1).1).2.2 ≠ 0 then (zeroM, (itS l (mC l (takeB l (nmS l 7).2.1).2.1).2.1 (mC l (takeB l (nmS l 7).2.1).2.1).1).2.2)
  else if (itS l (mC l (takeB l (nmS l 7).2.1).2.1).2.1 (mC l (takeB l (nmS l 7).2.1).2.1).1).2.1 ≠ l.length then (zeroM, 5)
  else (mkM (nmS l 7).1 (takeB l (nmS l 7).2.1).1 (itS l (mC l (takeB l (nmS l 7).2.1).2.1).2.1 (mC l (takeB l (nmS l 7).2.1).2.1).1).1, 0)
def decMA (x : Msg × Int) : AV := .tup [.agg x.1.row, .a (.int .i64 x.2)]
def zA (e : Int) : AV := .tup [.agg [.int .i64 0, .int .i64 0, .int .i64 0, .int .i64 0, .int .i64 0, .int .i64 0, .int .i64 0, .bool false, .nils], .a (.int .i64 e)]
theorem zA_le (e : Int) : VLe (zA e) (decMA (zeroM, e)) := VLe.tup ⟨zeroM_le, VLe.refl _, trivial⟩
def decMN (l : List UInt8) : AV :=
  if (nmS l 7).2.2 ≠ 0 then zA (nmS l 7).2.2
  else if (takeB l (nmS l 7).2.1).2.2 ≠ 0 then zA (takeB l (nmS l 7).2.1).2.2
  else if (mC l (takeB l (nmS l 7).2.1).2.1).2.2 ≠ 0 then zA (mC l (takeB l (nmS l 7).2.1).2.1).2.2
  else if (itS l (mC l (takeB l (nmS l 7).2.1).2.1).2.1 (mC l (takeB l (nmS l 7).2.1).2.1).1).2.2 ≠ 0 then zA (itS l (mC l (takeB l (nmS l 7).2.1).2.1).2.1 (mC l (takeB l (nmS l 7).2.1).2.1).1).2.2
  else if (itS l (mC l (takeB l (nmS l 7).2.1).2.1).2.1 (mC l (takeB l (nmS l 7).2.1).2.1).1).2.1 ≠ l.length then zA 5
  else decMA (mkM (nmS l 7).1 (takeB l (nmS l 7).2.1).1 (itS l (mC l (takeB l (nmS l 7).2.1).2.1).2.1 (mC l (takeB l (nmS l 7).2.1).2.1).1).1, 0)
theorem decMN_le (l : List UInt8) : VLe (decMN l) (decMA (decM l)) := by
  unfold decMN decM
  split
  · exact zA_le _
  split
  · exact zA_le _
  split
  · exact zA_le _
  split
  · exact zA_le _
  split
  · exact zA_le _
  · exact VLe.refl _
def hdT (vs : List Int) : List Atom := (vs ++ List.replicate (7 - vs.length) 0).map fun x => Atom.int .i64 x
theorem hdT_len (vs : List Int) (h : vs.length ≤ 7) : (hdT vs).length = 7 := by simp [hdT]; omega
theorem hdT_set (vs : List Int) (k : Nat) (v : Int) (h : vs.length = k) (hk : k < 7) : ((hdT vs).map AV.a).take k ++ [.a (.int .i64 v)] ++ ((hdT vs).map AV.a).drop (k + 1) = (hdT (vs ++ [v])).map AV.a := by
  have e : 7 - k = (7 - (k + 1)) + 1 := by omega
  unfold hdT
  subst h
  rw [e, List.replicate_succ]
  simp [List.take_append, List.drop_append]
theorem seven (vs : List Int) (h : vs.length = 7) : ∃ a b c d e f g, vs = [a, b, c, d, e, f, g] := by
  match vs, h with
  | [a, b, c, d, e, f, g], _ => exact ⟨a, b, c, d, e, f, g, rfl⟩
theorem hdT_zero : (hdT []).map AV.a = [.a (.int .i64 0), .a (.int .i64 0), .a (.int .i64 0), .a (.int .i64 0), .a (.int .i64 0), .a (.int .i64 0), .a (.int .i64 0)] := rfl
set_option maxHeartbeats 4000000 in
theorem ndec_N (s : ByteArray) (hs0 : s.size ≤ 1073741824) : PDen Try.prog 5 [.a (.str s)] (decMN s.data.toList) := by
  have hI := fun a' => wtakeint_den s a' hs0
  have hB := fun a' => wtakebool_den s a' hs0
  have hC := fun a' => wtakecount_den s a' 256 hs0 (by omega)
  have hT := fun a' => wtaketext_den s a' 4096 hs0 (by omega)
  have hLs : (s.size : Int) = (s.data.toList.length : Int) := by rw [dsize]
  have hLn : s.data.toList.length ≤ 1073741824 := by rw [dsize]; exact hs0
  generalize hL : s.data.toList = L at hI hB hC hT hLn hLs ⊢
  have hz := hdT_zero
  have n0 : stG (takeI L) 0 0 = ([], 0, 0) := rfl
  unfold decMN
  refine den_of_body k_network_Decode ⟨rfl, Nat.le_of_ble_eq_true rfl, thaw_intro ?_⟩
  unfold c_network_Decode
  simp only [go_sem]
  refine t_loopO_intro [] (fun k : Nat => k ≤ 7 ∧ ((nmS L k).2.2 = 0)) (fun k => 7 - k) 0 [3, 5, 6, 7, 8, 9, 20, 21, 22, 23, 24, 25, 26, 27, 28, 29, 30, 31, 32, 33, 34, 35, 36, 37, 38] (fun k => [(5, .a (.int .i64 (nmS L k).2.1)), (20, .a (.int .i64 k))]) (fun k => [[.a (.int .i64 0), .a (.int .i64 0), .a (.int .i64 0), .a (.int .i64 0), .a (.int .i64 0), .a (.int .i64 0), .a (.int .i64 0), .a (.bool false), .a .nils], (hdT (nmS L k).1).map AV.a]) (fun k => []) ⟨by omega, by exact rfl⟩ (by simp) (by first | (simp; done) | simp [nmS, n0, hz]) (by first | (simp; done) | simp [nmS, n0, hz]) (by first | (simp; done) | simp [nmS, n0, hz]) (fun k => by first | (simp; done) | simp [nmS, n0, hz]) (fun k => by first | (simp; done) | simp [nmS, n0, hz]) (fun k => by first | (simp; done) | simp [nmS, n0, hz]) ?_
  intro k hk0 st_ hst
  have hk : k ≤ 7 := hk0.1
  have hall := hk0.2
  clear hk0
  simp only [go_sem] at hst
  subst hst
  by_cases hlt : k < 7
  · have h1 : (k : Int) < 7 := by omega
    have ew := wrap1 k 7 hlt (by omega)
    have es := stG_ok (takeI L) 0 k hall
    have hln := stG_full (takeI L) 0 k hall
    have hi : PDen Try.prog _ _ (.tup [.a (.int .i64 (takeI L (nmS L k).2.1).1), .a (.int .i64 (takeI L (nmS L k).2.1).2.1), .a (.int .i64 (takeI L (nmS L k).2.1).2.2)]) := hI (nmS L k).2.1
    have eS : nmS L (k + 1) = ((nmS L k).1 ++ [(takeI L (nmS L k).2.1).1], (takeI L (nmS L k).2.1).2.1, (takeI L (nmS L k).2.1).2.2) := es
    have hst := hdT_set (nmS L k).1 k (takeI L (nmS L k).2.1).1 hln hlt
    have hl7 := hdT_len (nmS L k).1 (by unfold nmS; omega)
    generalize takeI L (nmS L k).2.1 = T at hi eS hst
    obtain ⟨v, a2, e2⟩ := T
    simp only [] at hi eS hst
    simp only [h1, go_sem]
    refine t_call_intro (hi) ?_
    by_cases he2 : e2 = 0
    · have n2 : (e2 != 0) = false := by simpa using he2
      have ev : (nmS L (k + 1)).1 = (nmS L k).1 ++ [v] := by rw [eS]
      have ea : (nmS L (k + 1)).2.1 = a2 := by rw [eS]
      have hb7 : ((k : Nat) : Int) < 7 := by omega
      simp only [n2, h1, hlt, hl7, Nat.mul_one, Nat.zero_add, go_sem]
      refine t_gate_intro (by omega) ?_
      simp only [hst, ew, hlt, go_sem]
      refine t_gate_intro (by rw [hl7]; omega) ?_
      simp only [hst, ew, hlt, go_sem]
      refine t_roundO (k + 1) ⟨by omega, (by rw [eS]; exact he2)⟩ (by omega) (by first | (simp; done) | simp [ea, ev]) (by first | (simp; done) | simp [ea, ev]) (by first | (simp; done) | simp [ea, ev]) (by first | (simp; done) | simp [ea, ev]) (by first | (simp; done) | simp [ea, ev])
    · have n2 : (e2 != 0) = true := by simpa using he2
      have ef : nmS L 7 = nmS L (k + 1) := stG_err (takeI L) 0 (k + 1) (by show (nmS L (k + 1)).2.2 ≠ 0; rw [eS]; exact he2) 7 (by omega)
      have e4 : (nmS L 7).2.2 = e2 := by rw [ef, eS]
      rw [if_pos (by rw [e4]; exact he2), e4]
      simp only [n2, go_sem]
      simp only [aresult, ares, go_sem]
      rfl
  · have h1 : ¬ (k : Int) < 7 := by omega
    have ek : k = 7 := by omega
    subst ek
    have hv7 : (nmS L 7).1.length = 7 := stG_full (takeI L) 0 7 hall
    rw [if_neg (by simpa using hall)]
    generalize nmS L 7 = V at hv7
    obtain ⟨vs, a2, e2⟩ := V
    simp only [] at hv7
    obtain ⟨v1, v2, v3, v4, v5, v6, v7, rfl⟩ := seven vs hv7
    have hd7 : (hdT [v1, v2, v3, v4, v5, v6, v7]).map AV.a = [.a (.int .i64 v1), .a (.int .i64 v2), .a (.int .i64 v3), .a (.int .i64 v4), .a (.int .i64 v5), .a (.int .i64 v6), .a (.int .i64 v7)] := rfl
    have hb : PDen Try.prog _ _ (.tup [.a (.bool (takeB L a2).1), .a (.int .i64 (takeB L a2).2.1), .a (.int .i64 (takeB L a2).2.2)]) := hB a2
    simp only []
    generalize takeB L a2 = B at hb
    obtain ⟨ok, a3, e3⟩ := B
    simp only [] at hb ⊢
    simp only [h1, hd7, go_sem]
    refine t_call_intro (hb) ?_
    by_cases he3 : e3 = 0
    rotate_left
    · have n3 : (e3 != 0) = true := by simpa using he3
      rw [if_pos he3]
      simp only [n3, go_sem]
      simp only [aresult, ares, go_sem]
      rfl
    have n3 : (e3 != 0) = false := by simpa using he3
    rw [if_neg (by simpa using he3)]
    simp only [n3, go_sem]
    repeat (refine t_gate_intro (by first | omega | decide) ?_; simp only [go_sem])
    have hc : PDen Try.prog _ _ (.tup [.a (.int .i64 (mC L a3).1), .a (.int .i64 (mC L a3).2.1), .a (.int .i64 (mC L a3).2.2)]) := hC a3
    have hn := mC_le L a3
    generalize mC L a3 = C at hc hn
    obtain ⟨n, a4, e4⟩ := C
    simp only [] at hc hn ⊢
    refine t_call_intro (hc) ?_
    by_cases he4 : e4 = 0
    rotate_left
    · have n4 : (e4 != 0) = true := by simpa using he4
      rw [if_pos he4]
      simp only [n4, go_sem]
      simp only [aresult, ares, go_sem]
      rfl
    have n4 : (e4 != 0) = false := by simpa using he4
    rw [if_neg (by simpa using he4)]
    simp only [n4, go_sem]
    repeat (refine t_gate_intro (by first | omega | decide) ?_; simp only [go_sem])
    have s0 : stG (dIt L) a4 0 = ([], a4, 0) := rfl
    refine t_loopO_intro [.cell 2 8 33 2] (fun k : Nat => k ≤ n ∧ ((itS L a4 k).2.2 = 0)) (fun k => n - k) 0 [3, 5, 14, 15, 16, 17, 18, 19, 78, 79, 80, 81, 82, 83, 84, 85, 86, 87, 88, 89, 90, 91, 92, 93, 94, 95, 96, 97, 98, 99, 100, 101, 102, 103, 104, 105, 106, 107, 108, 109, 110, 111] (fun k => [(5, .a (.int .i64 (itS L a4 k).2.1)), (39, .any), (42, .any), (66, .any), (69, .any), (78, .a (.int .i64 k))]) (fun k => [[.a (.int .i64 0), .a (.int .i64 0), .a (.int .i64 0), .a (.int .i64 0), .a (.int .i64 0), .a (.int .i64 0), .a (.int .i64 0), .a (.bool false), .a .nils], [.a (.int .i64 v1), .a (.int .i64 v2), .a (.int .i64 v3), .a (.int .i64 v4), .a (.int .i64 v5), .a (.int .i64 v6), .a (.int .i64 v7)], [.a (.int .i64 v1), .a (.int .i64 v2), .a (.int .i64 v3), .a (.int .i64 v4), .a (.int .i64 v5), .a (.int .i64 v6), .a (.int .i64 v7), .a (.bool ok), .own 0]]) (fun k => [⟨33, 2, (itS L a4 k).1.map Itm.row, false⟩]) ⟨by omega, by exact rfl⟩ (by simp) (by first | (simp; done) | simp [itS, s0]) (by first | (simp; done) | simp [itS, s0]) (by first | (simp; done) | simp [itS, s0]) (fun k => by first | (simp; done) | simp [itS, s0]) (fun k => by first | (simp; done) | simp [itS, s0]) (fun k => by first | (simp; done) | simp [itS, s0]) ?_
    intro k hk0 st_ hst
    have hk : k ≤ n := hk0.1
    have hall := hk0.2
    clear hk0
    simp only [go_sem] at hst
    subst hst
    by_cases hlt : k < n
    · have h1 : (k : Int) < (n : Int) := by omega
      have ew := wrap1 k n hlt (by omega)
      have hln := stG_len (dIt L) a4 k
      have es : itS L a4 (k + 1) = ((itS L a4 k).1 ++ [(dIt L (itS L a4 k).2.1).1], (dIt L (itS L a4 k).2.1).2.1, (dIt L (itS L a4 k).2.1).2.2) := stG_ok (dIt L) a4 k hall
      have hi : PDen Try.prog _ _ (.tup [.a (.int .i64 (takeI L (itS L a4 k).2.1).1), .a (.int .i64 (takeI L (itS L a4 k).2.1).2.1), .a (.int .i64 (takeI L (itS L a4 k).2.1).2.2)]) := hI (itS L a4 k).2.1
      have hln' : (itS L a4 k).1.length ≤ k := hln
      unfold dIt at es
      generalize takeI L (itS L a4 k).2.1 = T at hi es
      obtain ⟨v, a5, e5⟩ := T
      simp only [] at hi es
      simp only [h1, go_sem]
      refine t_call_intro (hi) ?_
      by_cases he5 : e5 = 0
      · have n5 : (e5 != 0) = false := by simpa using he5
        rw [if_neg (by simpa using he5)] at es
        have ht : PDen Try.prog _ _ (.tup [.a (.str ⟨(dT L a5).1.toArray⟩), .a (.int .i64 (dT L a5).2.1), .a (.int .i64 (dT L a5).2.2)]) := hT a5
        generalize dT L a5 = U at ht es
        obtain ⟨tx, a6, e6⟩ := U
        simp only [] at ht es
        simp only [n5, go_sem]
        refine t_call_intro (ht) ?_
        by_cases he6 : e6 = 0
        · have n6 : (e6 != 0) = false := by simpa using he6
          have eo : (itS L a4 k).1.map Itm.row ++ [[.int .i64 v, .str ⟨tx.toArray⟩]] = (itS L a4 (k + 1)).1.map Itm.row := by rw [es]; simp [Itm.row]
          have ea : (itS L a4 (k + 1)).2.1 = a6 := by rw [es]
          simp only [n6, go_sem]
          refine t_gate_intro (by first | omega | (simp; omega)) ?_
          simp only [eo, ew, go_sem]
          refine t_roundO (k + 1) ⟨by omega, (by rw [es]; exact he6)⟩ (by omega) (by first | (simp; done) | simp [ea]) (by first | (simp; done) | simp [ea]) (by first | (simp; done) | simp [ea]) (by first | (simp; done) | simp [ea]) (by first | (simp; done) | simp [ea])
        · have n6 : (e6 != 0) = true := by simpa using he6
          have ef : itS L a4 n = itS L a4 (k + 1) := stG_err (dIt L) a4 (k + 1) (by show (itS L a4 (k + 1)).2.2 ≠ 0; rw [es]; exact he6) n (by omega)
          have e7 : (itS L a4 n).2.2 = e6 := by rw [ef, es]
          rw [if_pos (by rw [e7]; exact he6), e7]
          simp only [n6, go_sem]
          simp only [aresult, ares, go_sem]
          rfl
      · have n5 : (e5 != 0) = true := by simpa using he5
        rw [if_pos he5] at es
        have ef : itS L a4 n = itS L a4 (k + 1) := stG_err (dIt L) a4 (k + 1) (by show (itS L a4 (k + 1)).2.2 ≠ 0; rw [es]; exact he5) n (by omega)
        have e7 : (itS L a4 n).2.2 = e5 := by rw [ef, es]
        rw [if_pos (by rw [e7]; exact he5), e7]
        simp only [n5, go_sem]
        simp only [aresult, ares, go_sem]
        rfl
    · have h1 : ¬ (k : Int) < (n : Int) := by omega
      have hke : k = n := by omega
      subst hke
      rw [if_neg (by simpa using hall)]
      generalize itS L a4 k = I
      obtain ⟨its, a5, e5⟩ := I
      simp only []
      simp only [h1, go_sem]
      by_cases hq : a5 = (s.size : Int)
      · have n6 : (a5 != (s.size : Int)) = false := by simpa using hq
        rw [if_neg (by rw [← hLs, hq]; simp)]
        simp only [n6, go_sem]
        simp only [aresult, ares, go_sem]
        rfl
      · have n6 : (a5 != (s.size : Int)) = true := by simpa using hq
        rw [if_pos (by rw [← hLs]; exact hq)]
        simp only [n6, go_sem]
        simp only [aresult, ares, go_sem]
        rfl
set_option maxHeartbeats 4000000 in
theorem rndec_N (s : ByteArray) (hs0 : s.size ≤ 1073741824) : PDen Try.prog 6 [.a (.str s)] (decMN s.data.toList) := by
  have hI := fun a' => rtakeint_den s a' hs0
  have hB := fun a' => rtakebool_den s a' hs0
  have hC := fun a' => rtakecount_den s a' 256 hs0 (by omega)
  have hT := fun a' => rtaketext_den s a' 4096 hs0 (by omega)
  have hLs : (s.size : Int) = (s.data.toList.length : Int) := by rw [dsize]
  have hLn : s.data.toList.length ≤ 1073741824 := by rw [dsize]; exact hs0
  generalize hL : s.data.toList = L at hI hB hC hT hLn hLs ⊢
  have hz := hdT_zero
  have n0 : stG (takeI L) 0 0 = ([], 0, 0) := rfl
  unfold decMN
  refine den_of_body k_ref40_Decode ⟨rfl, Nat.le_of_ble_eq_true rfl, thaw_intro ?_⟩
  unfold c_ref40_Decode
  simp only [go_sem]
  have hr0 : ([] : List Int).map nRow = [] := rfl
  refine t_loopO_intro [.slot 4 3 1] (fun k : Nat => k ≤ 7 ∧ ((nmS L k).2.2 = 0)) (fun k => 7 - k) 0 [3, 4, 5, 6, 7, 8, 9, 20, 21, 22, 23, 24, 25, 26, 27, 28, 29, 30, 31, 32, 33, 34, 35, 36, 37, 38, 39] (fun k => [(4, .own 0), (5, .a (.int .i64 (nmS L k).2.1)), (6, .a (.int .i64 k))]) (fun k => [[.a (.int .i64 0), .a (.int .i64 0), .a (.int .i64 0), .a (.int .i64 0), .a (.int .i64 0), .a (.int .i64 0), .a (.int .i64 0), .a (.bool false), .a .nils]]) (fun k => [⟨3, 1, (nmS L k).1.map nRow, false⟩]) ⟨by omega, by exact rfl⟩ (by simp) (by first | (simp; done) | simp [nmS, n0, hr0]) (by first | (simp; done) | simp [nmS, n0, hr0]) (by first | (simp; done) | simp [nmS, n0, hr0]) (fun k => by first | (simp; done) | simp [nmS, n0, hr0]) (fun k => by first | (simp; done) | simp [nmS, n0, hr0]) (fun k => by first | (simp; done) | simp [nmS, n0, hr0]) ?_
  intro k hk0 st_ hst
  have hk : k ≤ 7 := hk0.1
  have hall := hk0.2
  clear hk0
  simp only [go_sem] at hst
  subst hst
  by_cases hlt : k < 7
  · have h1 : (k : Int) < 7 := by omega
    have ew := wrap1 k 7 hlt (by omega)
    have es := stG_ok (takeI L) 0 k hall
    have hln := stG_full (takeI L) 0 k hall
    have hi : PDen Try.prog _ _ (.tup [.a (.int .i64 (takeI L (nmS L k).2.1).1), .a (.int .i64 (takeI L (nmS L k).2.1).2.1), .a (.int .i64 (takeI L (nmS L k).2.1).2.2)]) := hI (nmS L k).2.1
    have eS : nmS L (k + 1) = ((nmS L k).1 ++ [(takeI L (nmS L k).2.1).1], (takeI L (nmS L k).2.1).2.1, (takeI L (nmS L k).2.1).2.2) := es
    have hln' : (nmS L k).1.length = k := hln
    generalize takeI L (nmS L k).2.1 = T at hi eS
    obtain ⟨v, a2, e2⟩ := T
    simp only [] at hi eS
    simp only [h1, go_sem]
    refine t_call_intro (hi) ?_
    by_cases he2 : e2 = 0
    · have n2 : (e2 != 0) = false := by simpa using he2
      have ev : (nmS L (k + 1)).1 = (nmS L k).1 ++ [v] := by rw [eS]
      have ea : (nmS L (k + 1)).2.1 = a2 := by rw [eS]
      have eo : (nmS L k).1.map nRow ++ [[.int .i64 v]] = (nmS L (k + 1)).1.map nRow := by rw [eS]; simp [nRow]
      simp only [n2, go_sem]
      refine t_gate_intro (by first | omega | (simp; omega)) ?_
      simp only [eo, ew, go_sem]
      refine t_roundO (k + 1) ⟨by omega, (by rw [eS]; exact he2)⟩ (by omega) (by first | (simp; done) | simp [ea]) (by first | (simp; done) | simp [ea]) (by first | (simp; done) | simp [ea]) (by first | (simp; done) | simp [ea]) (by first | (simp; done) | simp [ea])
    · have n2 : (e2 != 0) = true := by simpa using he2
      have ef : nmS L 7 = nmS L (k + 1) := stG_err (takeI L) 0 (k + 1) (by show (nmS L (k + 1)).2.2 ≠ 0; rw [eS]; exact he2) 7 (by omega)
      have e4 : (nmS L 7).2.2 = e2 := by rw [ef, eS]
      rw [if_pos (by rw [e4]; exact he2), e4]
      simp only [n2, go_sem]
      simp only [aresult, ares, go_sem]
      rfl
  · have h1 : ¬ (k : Int) < 7 := by omega
    have ek : k = 7 := by omega
    subst ek
    have hv7 : (nmS L 7).1.length = 7 := stG_full (takeI L) 0 7 hall
    rw [if_neg (by simpa using hall)]
    generalize nmS L 7 = V at hv7
    obtain ⟨vs, a2, e2⟩ := V
    simp only [] at hv7
    obtain ⟨v1, v2, v3, v4, v5, v6, v7, rfl⟩ := seven vs hv7
    have hd7 : [v1, v2, v3, v4, v5, v6, v7].map nRow = [[.int .i64 v1], [.int .i64 v2], [.int .i64 v3], [.int .i64 v4], [.int .i64 v5], [.int .i64 v6], [.int .i64 v7]] := rfl
    have hb : PDen Try.prog _ _ (.tup [.a (.bool (takeB L a2).1), .a (.int .i64 (takeB L a2).2.1), .a (.int .i64 (takeB L a2).2.2)]) := hB a2
    simp only []
    generalize takeB L a2 = B at hb
    obtain ⟨ok, a3, e3⟩ := B
    simp only [] at hb ⊢
    simp only [h1, hd7, go_sem]
    refine t_call_intro (hb) ?_
    by_cases he3 : e3 = 0
    rotate_left
    · have n3 : (e3 != 0) = true := by simpa using he3
      rw [if_pos he3]
      simp only [n3, go_sem]
      simp only [aresult, ares, go_sem]
      rfl
    have n3 : (e3 != 0) = false := by simpa using he3
    rw [if_neg (by simpa using he3)]
    simp only [n3, go_sem]
    repeat (refine t_gate_intro (by first | omega | decide) ?_; simp only [go_sem])
    have hc : PDen Try.prog _ _ (.tup [.a (.int .i64 (mC L a3).1), .a (.int .i64 (mC L a3).2.1), .a (.int .i64 (mC L a3).2.2)]) := hC a3
    have hn := mC_le L a3
    generalize mC L a3 = C at hc hn
    obtain ⟨n, a4, e4⟩ := C
    simp only [] at hc hn ⊢
    refine t_call_intro (hc) ?_
    by_cases he4 : e4 = 0
    rotate_left
    · have n4 : (e4 != 0) = true := by simpa using he4
      rw [if_pos he4]
      simp only [n4, go_sem]
      simp only [aresult, ares, go_sem]
      rfl
    have n4 : (e4 != 0) = false := by simpa using he4
    rw [if_neg (by simpa using he4)]
    simp only [n4, go_sem]
    repeat (refine t_gate_intro (by first | omega | decide) ?_; simp only [go_sem])
    have s0 : stG (dIt L) a4 0 = ([], a4, 0) := rfl
    refine t_loopO_intro [.cell 1 8 33 2] (fun k : Nat => k ≤ n ∧ ((itS L a4 k).2.2 = 0)) (fun k => n - k) 0 [3, 5, 14, 15, 16, 17, 18, 19, 85, 86, 87, 88, 89, 90, 91, 92, 93, 94, 95, 96, 97, 98, 99, 100, 101, 102, 103, 104, 105, 106, 107, 108, 109, 110, 111, 112, 113, 114, 115, 116, 117, 118, 119, 120] (fun k => [(5, .a (.int .i64 (itS L a4 k).2.1)), (14, .a (.int .i64 k)), (40, .any), (43, .any), (51, .any), (54, .any)]) (fun k => [[.a (.int .i64 0), .a (.int .i64 0), .a (.int .i64 0), .a (.int .i64 0), .a (.int .i64 0), .a (.int .i64 0), .a (.int .i64 0), .a (.bool false), .a .nils], [.a (.int .i64 v1), .a (.int .i64 v2), .a (.int .i64 v3), .a (.int .i64 v4), .a (.int .i64 v5), .a (.int .i64 v6), .a (.int .i64 v7), .a (.bool ok), .own 1]]) (fun k => [⟨3, 1, [[.int .i64 v1], [.int .i64 v2], [.int .i64 v3], [.int .i64 v4], [.int .i64 v5], [.int .i64 v6], [.int .i64 v7]], false⟩, ⟨33, 2, (itS L a4 k).1.map Itm.row, false⟩]) ⟨by omega, by exact rfl⟩ (by simp) (by first | (simp; done) | simp [itS, s0]) (by first | (simp; done) | simp [itS, s0]) (by first | (simp; done) | simp [itS, s0]) (fun k => by first | (simp; done) | simp [itS, s0]) (fun k => by first | (simp; done) | simp [itS, s0]) (fun k => by first | (simp; done) | simp [itS, s0]) ?_
    intro k hk0 st_ hst
    have hk : k ≤ n := hk0.1
    have hall := hk0.2
    clear hk0
    simp only [go_sem] at hst
    subst hst
    by_cases hlt : k < n
    · have h1 : (k : Int) < (n : Int) := by omega
      have ew := wrap1 k n hlt (by omega)
      have hln := stG_len (dIt L) a4 k
      have es : itS L a4 (k + 1) = ((itS L a4 k).1 ++ [(dIt L (itS L a4 k).2.1).1], (dIt L (itS L a4 k).2.1).2.1, (dIt L (itS L a4 k).2.1).2.2) := stG_ok (dIt L) a4 k hall
      have hi : PDen Try.prog _ _ (.tup [.a (.int .i64 (takeI L (itS L a4 k).2.1).1), .a (.int .i64 (takeI L (itS L a4 k).2.1).2.1), .a (.int .i64 (takeI L (itS L a4 k).2.1).2.2)]) := hI (itS L a4 k).2.1
      have hln' : (itS L a4 k).1.length ≤ k := hln
      unfold dIt at es
      generalize takeI L (itS L a4 k).2.1 = T at hi es
      obtain ⟨v, a5, e5⟩ := T
      simp only [] at hi es
      simp only [h1, go_sem]
      refine t_call_intro (hi) ?_
      by_cases he5 : e5 = 0
      · have n5 : (e5 != 0) = false := by simpa using he5
        rw [if_neg (by simpa using he5)] at es
        have ht : PDen Try.prog _ _ (.tup [.a (.str ⟨(dT L a5).1.toArray⟩), .a (.int .i64 (dT L a5).2.1), .a (.int .i64 (dT L a5).2.2)]) := hT a5
        generalize dT L a5 = U at ht es
        obtain ⟨tx, a6, e6⟩ := U
        simp only [] at ht es
        simp only [n5, go_sem]
        refine t_call_intro (ht) ?_
        by_cases he6 : e6 = 0
        · have n6 : (e6 != 0) = false := by simpa using he6
          have eo : (itS L a4 k).1.map Itm.row ++ [[.int .i64 v, .str ⟨tx.toArray⟩]] = (itS L a4 (k + 1)).1.map Itm.row := by rw [es]; simp [Itm.row]
          have ea : (itS L a4 (k + 1)).2.1 = a6 := by rw [es]
          simp only [n6, go_sem]
          refine t_gate_intro (by first | omega | (simp; omega)) ?_
          simp only [eo, ew, go_sem]
          refine t_roundO (k + 1) ⟨by omega, (by rw [es]; exact he6)⟩ (by omega) (by first | (simp; done) | simp [ea]) (by first | (simp; done) | simp [ea]) (by first | (simp; done) | simp [ea]) (by first | (simp; done) | simp [ea]) (by first | (simp; done) | simp [ea])
        · have n6 : (e6 != 0) = true := by simpa using he6
          have ef : itS L a4 n = itS L a4 (k + 1) := stG_err (dIt L) a4 (k + 1) (by show (itS L a4 (k + 1)).2.2 ≠ 0; rw [es]; exact he6) n (by omega)
          have e7 : (itS L a4 n).2.2 = e6 := by rw [ef, es]
          rw [if_pos (by rw [e7]; exact he6), e7]
          simp only [n6, go_sem]
          simp only [aresult, ares, go_sem]
          rfl
      · have n5 : (e5 != 0) = true := by simpa using he5
        rw [if_pos he5] at es
        have ef : itS L a4 n = itS L a4 (k + 1) := stG_err (dIt L) a4 (k + 1) (by show (itS L a4 (k + 1)).2.2 ≠ 0; rw [es]; exact he5) n (by omega)
        have e7 : (itS L a4 n).2.2 = e5 := by rw [ef, es]
        rw [if_pos (by rw [e7]; exact he5), e7]
        simp only [n5, go_sem]
        simp only [aresult, ares, go_sem]
        rfl
    · have h1 : ¬ (k : Int) < (n : Int) := by omega
      have hke : k = n := by omega
      subst hke
      rw [if_neg (by simpa using hall)]
      generalize itS L a4 k = I
      obtain ⟨its, a5, e5⟩ := I
      simp only []
      simp only [h1, go_sem]
      by_cases hq : a5 = (s.size : Int)
      · have n6 : (a5 != (s.size : Int)) = false := by simpa using hq
        rw [if_neg (by rw [← hLs, hq]; simp)]
        simp only [n6, go_sem]
        simp only [aresult, ares, go_sem]
        rfl
      · have n6 : (a5 != (s.size : Int)) = true := by simpa using hq
        rw [if_pos (by rw [← hLs]; exact hq)]
        simp only [n6, go_sem]
        simp only [aresult, ares, go_sem]
        rfl
theorem ndec_den (s : ByteArray) (hs0 : s.size ≤ 1073741824) : PDen Try.prog 5 [.a (.str s)] (decMA (decM s.data.toList)) := (ndec_N s hs0).le (decMN_le _)
theorem rndec_den (s : ByteArray) (hs0 : s.size ≤ 1073741824) : PDen Try.prog 6 [.a (.str s)] (decMA (decM s.data.toList)) := (rndec_N s hs0).le (decMN_le _)
end Go.Proofs.Ytokkjkoonglheaa
