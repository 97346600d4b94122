/- Chapter 53: Diff and Update. -/
import Derived.Test.YtknmjfojlnajjaaDz
set_option linter.unusedSimpArgs false
set_option linter.unusedVariables false
namespace Go.Proofs.Ytknmjfojlnajjaa
open Go Ab Go.RowKit
set_option maxRecDepth 100000
attribute [local irreducible] awp aops aop asoft aeff aloop acall acallI acallT
attribute [local go_sem] Vl.row Pr.row

theorem atomsEq_u64 : ∀ (n : Nat) (xs ys : List Nat), xs.length = n → ys.length = n → atomsEq (List.replicate n 1) (xs.map u64A) (ys.map u64A) = some (decide (xs = ys))
  | 0, [], [], _, _ => rfl
  | n + 1, x :: xs, y :: ys, h1, h2 => by
    have ih := atomsEq_u64 n xs ys (by simpa using h1) (by simpa using h2)
    have e : ((x : Int) == (y : Int)) = decide (x = y) := Bool.eq_iff_iff.2 (by simp; omega)
    simp only [List.replicate_succ, List.map_cons, atomsEq, u64A, kindEq, if_true, e]
    change (match some (decide (x = y)), atomsEq (List.replicate n 1) (xs.map u64A) (ys.map u64A) with
      | some a, some b => some (a && b)
      | _, _ => none) = _
    rw [ih]
    exact congrArg some (Bool.eq_iff_iff.2 (by simp))
theorem inv_a (x : Atom) (k : Nat) : inval k (.a x) = .a x := rfl
theorem ones64 : List.replicate 64 1 = ([1, 1, 1, 1, 1, 1, 1, 1, 1, 1, 1, 1, 1, 1, 1, 1, 1, 1, 1, 1, 1, 1, 1, 1, 1, 1, 1, 1, 1, 1, 1, 1, 1, 1, 1, 1, 1, 1, 1, 1, 1, 1, 1, 1, 1, 1, 1, 1, 1, 1, 1, 1, 1, 1, 1, 1, 1, 1, 1, 1, 1, 1, 1, 1] : List Nat) := rfl
theorem arrA_get (bs : List Nat) (k : Nat) (h : k < bs.length) : ((bs.map u64A).map AV.a).getD k .any = .a (.int .u64 (bs[k] : Int)) := by
  simp [List.getD_eq_getElem?_getD, h, u64A]
set_option maxHeartbeats 2000000 in
theorem diff_no (a b : Tr) (ha : a.bs.length ≤ 1000000) (hb : b.bs.length ≤ 1000000) (h : (vT a && vT b) = false) : PDen Try.prog 18 [.agg a.row, .agg b.row] (.a .nils) := by
  have va := buckets_den a ha
  have vb := buckets_den b hb
  have la := bcA_len a
  have lb := bcA_len b
  rw [tr_row] at va vb
  rw [tr_row a, tr_row b]
  generalize vT a = x at va h
  generalize vT b = y at vb h
  generalize bcA a = A at *
  generalize bcA b = B at *
  have tA : (A.map AV.a).take 64 = A.map AV.a := List.take_of_length_le (by rw [List.length_map, la]; exact Nat.le_refl _)
  have tB : (B.map AV.a).take 64 = B.map AV.a := List.take_of_length_le (by rw [List.length_map, lb]; exact Nat.le_refl _)
  refine den_of_body k_digest_Diff ⟨rfl, Nat.le_of_ble_eq_true rfl, thaw_intro ?_⟩
  unfold c_digest_Diff
  simp only [go_sem]
  refine t_call_intro (va) ?_
  simp only [la, go_sem]
  refine t_call_intro (vb) ?_
  simp only [lb, go_sem]
  cases x with
  | false =>
    simp only [go_sem]
    simp only [aresult, ares, go_sem]
  | true =>
    cases y with
    | false =>
      simp only [go_sem]
      simp only [aresult, ares, go_sem]
    | true => cases h
set_option maxHeartbeats 4000000 in
theorem diff_eq (a b : Tr) (h : (vT a && vT b) = true) (hs : a.bs = b.bs) : PDen Try.prog 18 [.agg a.row, .agg b.row] (.a .nils) := by
  rw [Bool.and_eq_true] at h
  have ha := vT_len h.1
  have hb := vT_len h.2
  have va := buckets_den a (by omega)
  have vb := buckets_den b (by omega)
  have la := bcA_len a
  have lb := bcA_len b
  have eA : bcA a = a.bs.map u64A := if_pos h.1
  have eB : bcA b = b.bs.map u64A := if_pos h.2
  rw [tr_row, h.1] at va
  rw [tr_row, h.2] at vb
  rw [tr_row a, tr_row b]
  generalize bcA a = A at *
  generalize bcA b = B at *
  have tA : (A.map AV.a).take 64 = A.map AV.a := List.take_of_length_le (by rw [List.length_map, la]; exact Nat.le_refl _)
  have tB : (B.map AV.a).take 64 = B.map AV.a := List.take_of_length_le (by rw [List.length_map, lb]; exact Nat.le_refl _)
  have mA := atomsOf_map [] A
  have mB := atomsOf_map [] B
  refine den_of_body k_digest_Diff ⟨rfl, Nat.le_of_ble_eq_true rfl, thaw_intro ?_⟩
  unfold c_digest_Diff
  simp only [go_sem]
  refine t_call_intro (va) ?_
  simp only [la, go_sem]
  refine t_call_intro (vb) ?_
  have hq := atomsEq_u64 64 a.bs b.bs ha hb
  rw [← eA, ← eB, ones64, decide_eq_true hs] at hq
  simp only [lb, tA, tB, mA, mB, la, hq, go_sem]
  simp only [aresult, ares, go_sem]
set_option maxHeartbeats 4000000 in
theorem diff_ne (a b : Tr) (h : (vT a && vT b) = true) (hs : ¬ a.bs = b.bs) : PDen Try.prog 18 [.agg a.row, .agg b.row] (.a (.slice 1 ((diffB a.bs b.bs 64).map iR))) := by
  rw [Bool.and_eq_true] at h
  have ha := vT_len h.1
  have hb := vT_len h.2
  have va := buckets_den a (by omega)
  have vb := buckets_den b (by omega)
  have la := bcA_len a
  have lb := bcA_len b
  have eA : bcA a = a.bs.map u64A := if_pos h.1
  have eB : bcA b = b.bs.map u64A := if_pos h.2
  rw [tr_row, h.1] at va
  rw [tr_row, h.2] at vb
  rw [tr_row a, tr_row b]
  generalize bcA a = A at *
  generalize bcA b = B at *
  have tA : (A.map AV.a).take 64 = A.map AV.a := List.take_of_length_le (by rw [List.length_map, la]; exact Nat.le_refl _)
  have tB : (B.map AV.a).take 64 = B.map AV.a := List.take_of_length_le (by rw [List.length_map, lb]; exact Nat.le_refl _)
  have mA := atomsOf_map [] A
  have mB := atomsOf_map [] B
  refine den_of_body k_digest_Diff ⟨rfl, Nat.le_of_ble_eq_true rfl, thaw_intro ?_⟩
  unfold c_digest_Diff
  simp only [go_sem]
  refine t_call_intro (va) ?_
  simp only [la, go_sem]
  refine t_call_intro (vb) ?_
  have hq := atomsEq_u64 64 a.bs b.bs ha hb
  rw [← eA, ← eB, ones64, decide_eq_false hs] at hq
  simp only [lb, tA, tB, mA, mB, la, hq, go_sem]
  have hz := dfR_zero a.bs b.bs
  have lA := la
  have lB := lb
  refine t_loopO_intro [.slot 9 3 1] (fun k : Nat => k ≤ 64) (fun k => 64 - k) 0 [9, 10, 32, 33, 34, 35, 36, 37, 38, 39, 40, 41, 42, 43, 44, 45, 46] (fun k => [(9, .own 0), (11, .any), (13, .any), (16, .any), (18, .any), (32, .a (.int .i64 k))]) (fun k => [[.a (.slice 1 (a.bs.map u64R)), .a (.int .u64 (a.root : Int))], [.a (.slice 1 (b.bs.map u64R)), .a (.int .u64 (b.root : Int))], A.map AV.a, B.map AV.a]) (fun k => [⟨3, 1, dfR a.bs b.bs k, false⟩]) (by omega) (by simp) (by first | (simp; done) | simp [hz]) (by first | (simp; done) | simp [hz]) (by first | (simp; done) | simp [hz]) (fun k => by first | (simp; done) | simp [hz]) (fun k => by first | (simp; done) | simp [hz]) (fun k => by first | (simp; done) | simp [hz]) ?_
  intro k hk st_ hst
  simp only [go_sem] at hst
  subst hst
  by_cases hlt : k < 64
  · have q : (k : Int) < 64 := by omega
    have hka : k < a.bs.length := by omega
    have hkb : k < b.bs.length := by omega
    have e1 := arrA_get a.bs k hka
    have e2 := arrA_get b.bs k hkb
    rw [← eA] at e1
    rw [← eB] at e2
    have ew := wrap1 k 64 hlt (by omega)
    have hln := dfR_len a.bs b.bs k
    have g1 : a.bs.getD k 0 = a.bs[k] := by simp [hka]
    have g2 : b.bs.getD k 0 = b.bs[k] := by simp [hkb]
    by_cases hx : a.bs[k] = b.bs[k]
    · have n3 : ((a.bs[k] : Int) != (b.bs[k] : Int)) = false := by simp; omega
      have es := dfR_no a.bs b.bs k (by rw [g1, g2]; simp [hx])
      simp only [q, hlt, lA, lB, e1, e2, n3, Nat.mul_one, Nat.zero_add, go_sem]
      repeat (refine t_gate_intro (by first | omega | (rw [lA]; omega) | (rw [lB]; omega)) ?_; simp only [q, hlt, lA, lB, e1, e2, n3, Nat.mul_one, Nat.zero_add, go_sem])
      try simp only [ew, go_sem]
      refine t_roundO (k + 1) (by omega) (by omega) (by first | (simp; done) | simp [es]) (by first | (simp; done) | simp [es]) (by first | (simp; done) | simp [es]) (by first | (simp; done) | simp [es]) (by first | (simp; done) | simp [es])
    · have n3 : ((a.bs[k] : Int) != (b.bs[k] : Int)) = true := by simp; omega
      have es := dfR_yes a.bs b.bs k (by rw [g1, g2]; exact hx)
      simp only [q, hlt, lA, lB, e1, e2, n3, Nat.mul_one, Nat.zero_add, go_sem]
      repeat (refine t_gate_intro (by first | omega | (rw [lA]; omega) | (rw [lB]; omega)) ?_; simp only [q, hlt, lA, lB, e1, e2, n3, Nat.mul_one, Nat.zero_add, go_sem])
      simp only [es, ew, go_sem]
      refine t_roundO (k + 1) (by omega) (by omega) (by first | (simp; done) | simp [inv_a]) (by first | (simp; done) | simp [inv_a]) (by first | (simp; done) | simp [inv_a]) (by first | (simp; done) | simp [inv_a]) (by first | (simp; done) | simp [inv_a])
  · have q : ¬ (k : Int) < 64 := by omega
    have ek : k = 64 := by omega
    subst ek
    simp only [q, go_sem]
    simp only [aresult, ares, go_sem]
    rfl
theorem diff_den (a b : Tr) (ha : a.bs.length ≤ 1000000) (hb : b.bs.length ≤ 1000000) : PDen Try.prog 18 [.agg a.row, .agg b.row] (.a (.slice 1 ((diffT a b).map iR))) := by
  unfold diffT
  cases h : vT a && vT b with
  | false =>
    rw [if_neg (by simp)]
    exact (diff_no a b ha hb h).le (VLe.a (RLe.nils 1))
  | true =>
    rw [if_pos rfl]
    by_cases hs : a.bs = b.bs
    · rw [hs, diffB_same]
      exact (diff_eq a b h hs).le (VLe.a (RLe.nils 1))
    · exact diff_ne a b h hs
end Go.Proofs.Ytknmjfojlnajjaa
