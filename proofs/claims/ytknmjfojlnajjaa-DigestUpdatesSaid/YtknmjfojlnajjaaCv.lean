/- The code of values as contracts of the abstract layer. -/
import Derived.Test.YtknmjfojlnajjaaCw
import Derived.Test.YtknmjfojlnajjaaSa
set_option linter.unusedSimpArgs false
set_option linter.unusedVariables false
namespace Go.Proofs.Ytknmjfojlnajjaa
open Go Ab Go.RowKit
attribute [local irreducible] awp aops aop asoft aeff aloop acall acallI acallT
attribute [local go_sem] Vl.row

def valB (v : Vl) : ByteArray := if v.kind = 1 then vintB 1 ++ vintB (Cw.fold v.n) else if v.kind = 2 then vintB 2 ++ textB v.s else vintB 0
def decV (l : List UInt8) (a : Int) : Vl × Int × Int :=
  match Cw.takeU l a with
  | (kd, n, e) => if e ≠ 0 then (vl0, 0, e) else if kd = 0 then (vl0, n, 0)
    else if kd = 1 then (match takeIv (Cw.takeU l n) with | (m, en, e) => if e ≠ 0 then (vl0, 0, e) else (⟨1, m, ⟨#[]⟩⟩, en, 0))
    else if kd = 2 then (match Cw.takeT l n 64 with | (t, en, e) => if e ≠ 0 then (vl0, 0, e) else if plainV ⟨t.toArray⟩ = true then (⟨2, 0, ⟨t.toArray⟩⟩, en, 0) else (vl0, 0, 5))
    else (vl0, 0, 5)
def decVV (x : Vl × Int × Int) : AV := .tup [.agg x.1.row, .a (.int .i64 x.2.1), .a (.int .i64 x.2.2)]
theorem m64_0 : (0 : Int) < Cw.M64 := by rw [Cw.m64]; decide
theorem m64_1 : (1 : Int) < Cw.M64 := by rw [Cw.m64]; decide
theorem m64_2 : (2 : Int) < Cw.M64 := by rw [Cw.m64]; decide
set_option maxRecDepth 100000 in
set_option maxHeartbeats 1000000 in
theorem venc_den (v : Vl) (hs : v.s.size ≤ 1073741824) (h0 : -Cw.M63 ≤ v.n) (h1 : v.n < Cw.M63) : PDen Try.prog 43 [.agg v.row] (.a (.str (valB v))) := by
  have s1 : (vintB 1).size ≤ 10 := vintB_size 1 m64_1
  have s2 : (vintB 2).size ≤ 10 := vintB_size 2 m64_2
  have s3 : (vintB (Cw.fold v.n)).size ≤ 10 := vintB_size _ (Cw.fold_lt v.n h0 h1)
  have s4 := textB_size v.s hs
  have c0 := wuint_den 0 (by decide) m64_0
  have c1 := wuint_den 1 (by decide) m64_1
  have c2 := wuint_den 2 (by decide) m64_2
  by_cases k1 : v.kind = 1
  · have q1 : ((1 : Int) == 1) = true := by decide
    have hr : valB v = vintB 1 ++ vintB (Cw.fold v.n) := if_pos k1
    rw [hr]
    refine den_of_body k_value_Encode ⟨rfl, Nat.le_of_ble_eq_true rfl, thaw_intro ?_⟩
    unfold c_value_Encode
    simp only [k1, q1, go_sem]
    refine t_call_intro (c1) ?_
    simp only [go_sem]
    refine t_call_intro (wint_den v.n h0 h1) ?_
    simp only [go_sem]
    refine t_gate_intro (by first | omega | (simp; omega)) ?_
    simp only [go_sem]
    simp only [aresult, ares, go_sem]
  · by_cases k2 : v.kind = 2
    · have q1 : ((2 : Int) == 1) = false := by decide
      have q2 : ((2 : Int) == 2) = true := by decide
      have hr : valB v = vintB 2 ++ textB v.s := (if_neg k1).trans (if_pos k2)
      rw [hr]
      refine den_of_body k_value_Encode ⟨rfl, Nat.le_of_ble_eq_true rfl, thaw_intro ?_⟩
      unfold c_value_Encode
      simp only [k2, q1, q2, go_sem]
      refine t_call_intro (c2) ?_
      simp only [go_sem]
      refine t_call_intro (wtext_den v.s hs) ?_
      simp only [go_sem]
      refine t_gate_intro (by first | omega | (simp; omega)) ?_
      simp only [go_sem]
      simp only [aresult, ares, go_sem]
    · have q1 : (v.kind == 1) = false := by simp [k1]
      have q2 : (v.kind == 2) = false := by simp [k2]
      have hr : valB v = vintB 0 := (if_neg k1).trans (if_neg k2)
      rw [hr]
      refine den_of_body k_value_Encode ⟨rfl, Nat.le_of_ble_eq_true rfl, thaw_intro ?_⟩
      unfold c_value_Encode
      simp only [q1, q2, go_sem]
      refine t_call_intro (c0) ?_
      simp only [go_sem]
      simp only [aresult, ares, go_sem]
set_option maxRecDepth 100000 in
set_option maxHeartbeats 1000000 in
theorem rvenc_den (v : Vl) (hs : v.s.size ≤ 1073741824) (h0 : -Cw.M63 ≤ v.n) (h1 : v.n < Cw.M63) : PDen Try.prog 45 [.agg v.row] (.a (.str (valB v))) := by
  have s1 : (vintB 1).size ≤ 10 := vintB_size 1 m64_1
  have s2 : (vintB 2).size ≤ 10 := vintB_size 2 m64_2
  have s3 : (vintB (Cw.fold v.n)).size ≤ 10 := vintB_size _ (Cw.fold_lt v.n h0 h1)
  have s4 := textB_size v.s hs
  have c0 := ruint_den 0 (by decide) m64_0
  have c1 := ruint_den 1 (by decide) m64_1
  have c2 := ruint_den 2 (by decide) m64_2
  by_cases k1 : v.kind = 1
  · have q1 : ((1 : Int) == 1) = true := by decide
    have hr : valB v = vintB 1 ++ vintB (Cw.fold v.n) := if_pos k1
    rw [hr]
    refine den_of_body k_ref05_Encode ⟨rfl, Nat.le_of_ble_eq_true rfl, thaw_intro ?_⟩
    unfold c_ref05_Encode
    simp only [k1, q1, go_sem]
    refine t_call_intro (c1) ?_
    simp only [go_sem]
    refine t_call_intro (rint_den v.n h0 h1) ?_
    simp only [go_sem]
    refine t_gate_intro (by first | omega | (simp; omega)) ?_
    simp only [go_sem]
    simp only [aresult, ares, go_sem]
  · by_cases k2 : v.kind = 2
    · have q1 : ((2 : Int) == 1) = false := by decide
      have q2 : ((2 : Int) == 2) = true := by decide
      have hr : valB v = vintB 2 ++ textB v.s := (if_neg k1).trans (if_pos k2)
      rw [hr]
      refine den_of_body k_ref05_Encode ⟨rfl, Nat.le_of_ble_eq_true rfl, thaw_intro ?_⟩
      unfold c_ref05_Encode
      simp only [k2, q1, q2, go_sem]
      refine t_call_intro (c2) ?_
      simp only [go_sem]
      refine t_call_intro (rtext_den v.s hs) ?_
      simp only [go_sem]
      refine t_gate_intro (by first | omega | (simp; omega)) ?_
      simp only [go_sem]
      simp only [aresult, ares, go_sem]
    · have q1 : (v.kind == 1) = false := by simp [k1]
      have q2 : (v.kind == 2) = false := by simp [k2]
      have hr : valB v = vintB 0 := (if_neg k1).trans (if_neg k2)
      rw [hr]
      refine den_of_body k_ref05_Encode ⟨rfl, Nat.le_of_ble_eq_true rfl, thaw_intro ?_⟩
      unfold c_ref05_Encode
      simp only [q1, q2, go_sem]
      refine t_call_intro (c0) ?_
      simp only [go_sem]
      simp only [aresult, ares, go_sem]
end Go.Proofs.Ytknmjfojlnajjaa
