/- The code of values as contracts of the abstract layer. -/
import Derived.Test.YtbiongfnbbnndaaCw
import Derived.Test.YtbiongfnbbnndaaSa
set_option linter.unusedSimpArgs false
set_option linter.unusedVariables false
namespace Go.Proofs.Ytbiongfnbbnndaa
open Go Ab Go.RowKit
attribute [local irreducible] awp aops aop asoft aeff aloop acall acallI acallT
attribute [local go_sem] Vl.row

def valB (v : Vl) : ByteArray := if v.kind = 1 then vintB 1 ++ vintB (Cw.fold v.n) else if v.kind = 2 then vintB 2 ++ textB v.s else vintB 0
def decV (l : List UInt8) (a : Int) : Vl × Int × Int :=
  match Cw.takeU l a with
  | (kd, n, e) => if e ≠ 0 then (vl0, 0, e) else if kd = 0 then (vl0, n, 0)
    else if kd = 1 then (match takeIv (Cw.takeU l n) with | (m, en, e) => if e ≠ 0 then (vl0, 0, e) else (⟨1, m, ⟨#[]⟩⟩, en, 0))
    else if kd = 2 then (match Cw.takeT l n 64 with | (t, en, e) => if e ≠ 0 then (vl0, 0, e) else if plainV ⟨t.toArray⟩ = true then (⟨2, 0, ⟨t.toArray⟩⟩, en, 0) else (vl0, 0, 5))
    else (vl0, 0, 5)
def decVV (x : Vl × Int × Int) : AV := .tup [.agg x.1.row, .a (.int .i64 x.2.1), .a (.int .i64 x.2.2)]
theorem m64_0 : (0 : Int) < Cw.M64 := by rw [Cw.m64]; decide
theorem m64_1 : (1 : Int) < Cw.M64 := by rw [Cw.m64]; decide
theorem m64_2 : (2 : Int) < Cw.M64 := by rw [Cw.m64]; decide
set_option maxRecDepth 100000 in
set_option maxHeartbeats 1000000 in
theorem venc_den (v : Vl) (hs : v.s.size ≤ 1125899906842624) (h0 : -Cw.M63 ≤ v.n) (h1 : v.n < Cw.M63) : PDen Try.prog 49 [.agg v.row] (.a (.str (valB v))) := by
  have s1 : (vintB 1).size ≤ 10 := vintB_size 1 m64_1
  have s2 : (vintB 2).size ≤ 10 := vintB_size 2 m64_2
  have s3 : (vintB (Cw.fold v.n)).size ≤ 10 := vintB_size _ (Cw.fold_lt v.n h0 h1)
  have s4 := textB_size v.s hs
  have c0 := wuint_den 0 (by decide) m64_0
  have c1 := wuint_den 1 (by decide) m64_1
  have c2 := wuint_den 2 (by decide) m64_2
  by_cases k1 : v.kind = 1
  · have q1 : ((1 : Int) == 1) = true := by decide
    have hr : valB v = vintB 1 ++ vintB (Cw.fold v.n) := if_pos k1
    rw [hr]
    refine den_of_body k_value_Encode ⟨rfl, Nat.le_of_ble_eq_true rfl, thaw_intro ?_⟩
    unfold c_value_Encode
    simp only [k1, q1, go_sem]
    refine t_call_intro (c1) ?_
    simp only [go_sem]
    refine t_call_intro (wint_den v.n h0 h1) ?_
    simp only [go_sem]
    refine t_gate_intro (by first | omega | (simp; omega)) ?_
    simp only [go_sem]
    simp only [aresult, ares, go_sem]
  · by_cases k2 : v.kind = 2
    · have q1 : ((2 : Int) == 1) = false := by decide
      have q2 : ((2 : Int) == 2) = true := by decide
      have hr : valB v = vintB 2 ++ textB v.s := (if_neg k1).trans (if_pos k2)
      rw [hr]
      refine den_of_body k_value_Encode ⟨rfl, Nat.le_of_ble_eq_true rfl, thaw_intro ?_⟩
      unfold c_value_Encode
      simp only [k2, q1, q2, go_sem]
      refine t_call_intro (c2) ?_
      simp only [go_sem]
      refine t_call_intro (wtext_den v.s hs) ?_
      simp only [go_sem]
      refine t_gate_intro (by first | omega | (simp; omega)) ?_
      simp only [go_sem]
      simp only [aresult, ares, go_sem]
    · have q1 : (v.kind == 1) = false := by simp [k1]
      have q2 : (v.kind == 2) = false := by simp [k2]
      have hr : valB v = vintB 0 := (if_neg k1).trans (if_neg k2)
      rw [hr]
      refine den_of_body k_value_Encode ⟨rfl, Nat.le_of_ble_eq_true rfl, thaw_intro ?_⟩
      unfold c_value_Encode
      simp only [q1, q2, go_sem]
      refine t_call_intro (c0) ?_
      simp only [go_sem]
      simp only [aresult, ares, go_sem]
set_option maxRecDepth 100000 in
set_option maxHeartbeats 1000000 in
theorem rvenc_den (v : Vl) (hs : v.s.size ≤ 1125899906842624) (h0 : -Cw.M63 ≤ v.n) (h1 : v.n < Cw.M63) : PDen Try.prog 74 [.agg v.row] (.a (.str (valB v))) := by
  have s1 : (vintB 1).size ≤ 10 := vintB_size 1 m64_1
  have s2 : (vintB 2).size ≤ 10 := vintB_size 2 m64_2
  have s3 : (vintB (Cw.fold v.n)).size ≤ 10 := vintB_size _ (Cw.fold_lt v.n h0 h1)
  have s4 := textB_size v.s hs
  have c0 := ruint_den 0 (by decide) m64_0
  have c1 := ruint_den 1 (by decide) m64_1
  have c2 := ruint_den 2 (by decide) m64_2
  by_cases k1 : v.kind = 1
  · have q1 : ((1 : Int) == 1) = true := by decide
    have hr : valB v = vintB 1 ++ vintB (Cw.fold v.n) := if_pos k1
    rw [hr]
    refine den_of_body k_ref05_Encode ⟨rfl, Nat.le_of_ble_eq_true rfl, thaw_intro ?_⟩
    unfold c_ref05_Encode
    simp only [k1, q1, go_sem]
    refine t_call_intro (c1) ?_
    simp only [go_sem]
    refine t_call_intro (rint_den v.n h0 h1) ?_
    simp only [go_sem]
    refine t_gate_intro (by first | omega | (simp; omega)) ?_
    simp only [go_sem]
    simp only [aresult, ares, go_sem]
  · by_cases k2 : v.kind = 2
    · have q1 : ((2 : Int) == 1) = false := by decide
      have q2 : ((2 : Int) == 2) = true := by decide
      have hr : valB v = vintB 2 ++ textB v.s := (if_neg k1).trans (if_pos k2)
      rw [hr]
      refine den_of_body k_ref05_Encode ⟨rfl, Nat.le_of_ble_eq_true rfl, thaw_intro ?_⟩
      unfold c_ref05_Encode
      simp only [k2, q1, q2, go_sem]
      refine t_call_intro (c2) ?_
      simp only [go_sem]
      refine t_call_intro (rtext_den v.s hs) ?_
      simp only [go_sem]
      refine t_gate_intro (by first | omega | (simp; omega)) ?_
      simp only [go_sem]
      simp only [aresult, ares, go_sem]
    · have q1 : (v.kind == 1) = false := by simp [k1]
      have q2 : (v.kind == 2) = false := by simp [k2]
      have hr : valB v = vintB 0 := (if_neg k1).trans (if_neg k2)
      rw [hr]
      refine den_of_body k_ref05_Encode ⟨rfl, Nat.le_of_ble_eq_true rfl, thaw_intro ?_⟩
      unfold c_ref05_Encode
      simp only [q1, q2, go_sem]
      refine t_call_intro (c0) ?_
      simp only [go_sem]
      simp only [aresult, ares, go_sem]
set_option maxRecDepth 100000 in
theorem valInt_den (n : Int) : PDen Try.prog 88 [.a (.int .i64 n)] (.agg [.int .i64 1, .int .i64 n, .str ⟨#[]⟩]) := by
  refine den_of_body k_value_Int ⟨rfl, Nat.le_of_ble_eq_true rfl, thaw_intro ?_⟩
  unfold c_value_Int
  simp only [go_sem]
  simp only [aresult, ares, go_sem]
set_option maxRecDepth 100000 in
theorem rvalInt_den (n : Int) : PDen Try.prog 91 [.a (.int .i64 n)] (.agg [.int .i64 1, .int .i64 n, .str ⟨#[]⟩]) := by
  refine den_of_body k_ref05_Int ⟨rfl, Nat.le_of_ble_eq_true rfl, thaw_intro ?_⟩
  unfold c_ref05_Int
  simp only [go_sem]
  simp only [aresult, ares, go_sem]
set_option maxRecDepth 100000 in
set_option maxHeartbeats 1000000 in
theorem vdec_den (s : ByteArray) (a : Int) (hs : s.size ≤ 1125899906842624) : PDen Try.prog 80 [.a (.str s), .a (.int .i64 a)] (decVV (decV s.data.toList a)) := by
  have n0 : ((0 : Int) != 0) = false := by decide
  have m0 : ((0 : Int) == 0) = true := by decide
  obtain ⟨kd, n, e, hU⟩ : ∃ kd n e, Cw.takeU s.data.toList a = (kd, n, e) := ⟨_, _, _, rfl⟩
  have hT := wtakeuint_den s a hs
  unfold takeUV at hT
  rw [hU] at hT
  simp only at hT
  by_cases he : e = 0
  · subst he
    by_cases h0 : kd = 0
    · subst h0
      have q0 : (((0 : Nat) : Int) == 0) = true := by decide
      have hr : decV s.data.toList a = (vl0, n, 0) := by simp [decV, hU]
      rw [hr]
      refine den_of_body k_value_Decode ⟨rfl, Nat.le_of_ble_eq_true rfl, thaw_intro ?_⟩
      unfold c_value_Decode
      simp only [go_sem]
      refine t_call_intro (hT) ?_
      simp only [n0, q0, go_sem]
      simp only [aresult, ares, go_sem]
      try rfl
    · have q0 : ((kd : Int) == 0) = false := by simp [h0]
      by_cases h1 : kd = 1
      · subst h1
        have q1 : (((1 : Nat) : Int) == 1) = true := by decide
        have q1' : (((1 : Nat) : Int) == 0) = false := by decide
        obtain ⟨m, en, e2, hI⟩ : ∃ m en e2, takeIv (Cw.takeU s.data.toList n) = (m, en, e2) := ⟨_, _, _, rfl⟩
        have hT2 := wtakeint_den s n hs
        unfold takeIV at hT2
        rw [hI] at hT2
        simp only at hT2
        by_cases he2 : e2 = 0
        · subst he2
          have hr : decV s.data.toList a = (⟨1, m, ⟨#[]⟩⟩, en, 0) := by simp [decV, hU, hI]
          rw [hr]
          refine den_of_body k_value_Decode ⟨rfl, Nat.le_of_ble_eq_true rfl, thaw_intro ?_⟩
          unfold c_value_Decode
          simp only [go_sem]
          refine t_call_intro (hT) ?_
          simp only [n0, q0, q1, q1', go_sem]
          refine t_call_intro (hT2) ?_
          simp only [n0, go_sem]
          refine t_call_intro (valInt_den m) ?_
          simp only [go_sem]
          simp only [aresult, ares, go_sem]
          try rfl
        · have qe : (e2 != 0) = true := by simp [he2]
          have hr : decV s.data.toList a = (vl0, 0, e2) := by simp [decV, hU, hI, he2]
          rw [hr]
          refine den_of_body k_value_Decode ⟨rfl, Nat.le_of_ble_eq_true rfl, thaw_intro ?_⟩
          unfold c_value_Decode
          simp only [go_sem]
          refine t_call_intro (hT) ?_
          simp only [n0, q0, q1, q1', go_sem]
          refine t_call_intro (hT2) ?_
          simp only [qe, go_sem]
          simp only [aresult, ares, go_sem]
          try rfl
      · have q1 : ((kd : Int) == 1) = false := by simp; omega
        by_cases h2 : kd = 2
        · subst h2
          have q2 : (((2 : Nat) : Int) == 2) = true := by decide
          have q2' : (((2 : Nat) : Int) == 0) = false := by decide
          have q2'' : (((2 : Nat) : Int) == 1) = false := by decide
          have q2n : (((2 : Nat) : Int) != 2) = false := by decide
          obtain ⟨t, en, e2, hI⟩ : ∃ t en e2, Cw.takeT s.data.toList n 64 = (t, en, e2) := ⟨_, _, _, rfl⟩
          have hT2 := wtaketext_den s n 64 hs (by decide)
          have hsz := takeT_size s n 64
          unfold takeTV at hT2
          rw [hI] at hT2 hsz
          simp only at hT2 hsz
          by_cases he2 : e2 = 0
          · subst he2
            have hp := plainV_den ⟨t.toArray⟩ (by omega)
            cases hv : plainV ⟨t.toArray⟩ with
            | true =>
              rw [hv] at hp
              have hr : decV s.data.toList a = (⟨2, 0, ⟨t.toArray⟩⟩, en, 0) := by simp [decV, hU, hI, hv]
              rw [hr]
              refine den_of_body k_value_Decode ⟨rfl, Nat.le_of_ble_eq_true rfl, thaw_intro ?_⟩
              unfold c_value_Decode
              simp only [go_sem]
              refine t_call_intro (hT) ?_
              simp only [n0, q0, q1, q2, q2', q2'', q2n, go_sem]
              refine t_call_intro (hT2) ?_
              simp only [n0, m0, go_sem]
              refine t_call_intro (hp) ?_
              simp only [n0, go_sem]
              simp only [aresult, ares, go_sem]
              try rfl
            | false =>
              rw [hv] at hp
              have n5 : ((5 : Int) != 0) = true := by decide
              have hr : decV s.data.toList a = (vl0, 0, 5) := by simp [decV, hU, hI, hv]
              rw [hr]
              refine den_of_body k_value_Decode ⟨rfl, Nat.le_of_ble_eq_true rfl, thaw_intro ?_⟩
              unfold c_value_Decode
              simp only [go_sem]
              refine t_call_intro (hT) ?_
              simp only [n0, q0, q1, q2, q2', q2'', q2n, go_sem]
              refine t_call_intro (hT2) ?_
              simp only [n0, m0, go_sem]
              refine t_call_intro (hp) ?_
              simp only [n5, go_sem]
              simp only [aresult, ares, go_sem]
              try rfl
          · have qe : (e2 != 0) = true := by simp [he2]
            have qe' : (e2 == 0) = false := by simp [he2]
            have hr : decV s.data.toList a = (vl0, 0, e2) := by simp [decV, hU, hI, he2]
            rw [hr]
            refine den_of_body k_value_Decode ⟨rfl, Nat.le_of_ble_eq_true rfl, thaw_intro ?_⟩
            unfold c_value_Decode
            simp only [go_sem]
            refine t_call_intro (hT) ?_
            simp only [n0, q0, q1, q2, q2', q2'', q2n, go_sem]
            refine t_call_intro (hT2) ?_
            simp only [qe, qe', go_sem]
            simp only [aresult, ares, go_sem]
            try rfl
        · have q2 : ((kd : Int) == 2) = false := by simp; omega
          have q2n : ((kd : Int) != 2) = true := by simp; omega
          have hr : decV s.data.toList a = (vl0, 0, 5) := by simp [decV, hU, h0, h1, h2]
          rw [hr]
          refine den_of_body k_value_Decode ⟨rfl, Nat.le_of_ble_eq_true rfl, thaw_intro ?_⟩
          unfold c_value_Decode
          simp only [go_sem]
          refine t_call_intro (hT) ?_
          simp only [n0, q0, q1, q2, q2n, go_sem]
          simp only [aresult, ares, go_sem]
          try rfl
  · have qe : (e != 0) = true := by simp [he]
    have hr : decV s.data.toList a = (vl0, 0, e) := by simp [decV, hU, he]
    rw [hr]
    refine den_of_body k_value_Decode ⟨rfl, Nat.le_of_ble_eq_true rfl, thaw_intro ?_⟩
    unfold c_value_Decode
    simp only [go_sem]
    refine t_call_intro (hT) ?_
    simp only [qe, go_sem]
    simp only [aresult, ares, go_sem]
    try rfl
set_option maxRecDepth 100000 in
set_option maxHeartbeats 1000000 in
theorem rvdec_den (s : ByteArray) (a : Int) (hs : s.size ≤ 1125899906842624) : PDen Try.prog 81 [.a (.str s), .a (.int .i64 a)] (decVV (decV s.data.toList a)) := by
  have n0 : ((0 : Int) != 0) = false := by decide
  have m0 : ((0 : Int) == 0) = true := by decide
  obtain ⟨kd, n, e, hU⟩ : ∃ kd n e, Cw.takeU s.data.toList a = (kd, n, e) := ⟨_, _, _, rfl⟩
  have hT := rtakeuint_den s a hs
  unfold takeUV at hT
  rw [hU] at hT
  simp only at hT
  by_cases he : e = 0
  · subst he
    by_cases h0 : kd = 0
    · subst h0
      have q0 : (((0 : Nat) : Int) == 0) = true := by decide
      have hr : decV s.data.toList a = (vl0, n, 0) := by simp [decV, hU]
      rw [hr]
      refine den_of_body k_ref05_Decode ⟨rfl, Nat.le_of_ble_eq_true rfl, thaw_intro ?_⟩
      unfold c_ref05_Decode
      simp only [go_sem]
      refine t_call_intro (hT) ?_
      simp only [n0, q0, go_sem]
      simp only [aresult, ares, go_sem]
      try rfl
    · have q0 : ((kd : Int) == 0) = false := by simp [h0]
      by_cases h1 : kd = 1
      · subst h1
        have q1 : (((1 : Nat) : Int) == 1) = true := by decide
        have q1' : (((1 : Nat) : Int) == 0) = false := by decide
        obtain ⟨m, en, e2, hI⟩ : ∃ m en e2, takeIv (Cw.takeU s.data.toList n) = (m, en, e2) := ⟨_, _, _, rfl⟩
        have hT2 := rtakeint_den s n hs
        unfold takeIV at hT2
        rw [hI] at hT2
        simp only at hT2
        by_cases he2 : e2 = 0
        · subst he2
          have hr : decV s.data.toList a = (⟨1, m, ⟨#[]⟩⟩, en, 0) := by simp [decV, hU, hI]
          rw [hr]
          refine den_of_body k_ref05_Decode ⟨rfl, Nat.le_of_ble_eq_true rfl, thaw_intro ?_⟩
          unfold c_ref05_Decode
          simp only [go_sem]
          refine t_call_intro (hT) ?_
          simp only [n0, q0, q1, q1', go_sem]
          refine t_call_intro (hT2) ?_
          simp only [n0, go_sem]
          refine t_call_intro (rvalInt_den m) ?_
          simp only [go_sem]
          simp only [aresult, ares, go_sem]
          try rfl
        · have qe : (e2 != 0) = true := by simp [he2]
          have hr : decV s.data.toList a = (vl0, 0, e2) := by simp [decV, hU, hI, he2]
          rw [hr]
          refine den_of_body k_ref05_Decode ⟨rfl, Nat.le_of_ble_eq_true rfl, thaw_intro ?_⟩
          unfold c_ref05_Decode
          simp only [go_sem]
          refine t_call_intro (hT) ?_
          simp only [n0, q0, q1, q1', go_sem]
          refine t_call_intro (hT2) ?_
          simp only [qe, go_sem]
          simp only [aresult, ares, go_sem]
          try rfl
      · have q1 : ((kd : Int) == 1) = false := by simp; omega
        by_cases h2 : kd = 2
        · subst h2
          have q2 : (((2 : Nat) : Int) == 2) = true := by decide
          have q2' : (((2 : Nat) : Int) == 0) = false := by decide
          have q2'' : (((2 : Nat) : Int) == 1) = false := by decide
          have q2n : (((2 : Nat) : Int) != 2) = false := by decide
          obtain ⟨t, en, e2, hI⟩ : ∃ t en e2, Cw.takeT s.data.toList n 64 = (t, en, e2) := ⟨_, _, _, rfl⟩
          have hT2 := rtaketext_den s n 64 hs (by decide)
          have hsz := takeT_size s n 64
          unfold takeTV at hT2
          rw [hI] at hT2 hsz
          simp only at hT2 hsz
          by_cases he2 : e2 = 0
          · subst he2
            have hp := rplainV_den ⟨t.toArray⟩ (by omega)
            cases hv : plainV ⟨t.toArray⟩ with
            | true =>
              rw [hv] at hp
              have hr : decV s.data.toList a = (⟨2, 0, ⟨t.toArray⟩⟩, en, 0) := by simp [decV, hU, hI, hv]
              rw [hr]
              refine den_of_body k_ref05_Decode ⟨rfl, Nat.le_of_ble_eq_true rfl, thaw_intro ?_⟩
              unfold c_ref05_Decode
              simp only [go_sem]
              refine t_call_intro (hT) ?_
              simp only [n0, q0, q1, q2, q2', q2'', q2n, go_sem]
              refine t_call_intro (hT2) ?_
              simp only [n0, m0, go_sem]
              refine t_call_intro (hp) ?_
              simp only [n0, go_sem]
              simp only [aresult, ares, go_sem]
              try rfl
            | false =>
              rw [hv] at hp
              have n5 : ((5 : Int) != 0) = true := by decide
              have hr : decV s.data.toList a = (vl0, 0, 5) := by simp [decV, hU, hI, hv]
              rw [hr]
              refine den_of_body k_ref05_Decode ⟨rfl, Nat.le_of_ble_eq_true rfl, thaw_intro ?_⟩
              unfold c_ref05_Decode
              simp only [go_sem]
              refine t_call_intro (hT) ?_
              simp only [n0, q0, q1, q2, q2', q2'', q2n, go_sem]
              refine t_call_intro (hT2) ?_
              simp only [n0, m0, go_sem]
              refine t_call_intro (hp) ?_
              simp only [n5, go_sem]
              simp only [aresult, ares, go_sem]
              try rfl
          · have qe : (e2 != 0) = true := by simp [he2]
            have qe' : (e2 == 0) = false := by simp [he2]
            have hr : decV s.data.toList a = (vl0, 0, e2) := by simp [decV, hU, hI, he2]
            rw [hr]
            refine den_of_body k_ref05_Decode ⟨rfl, Nat.le_of_ble_eq_true rfl, thaw_intro ?_⟩
            unfold c_ref05_Decode
            simp only [go_sem]
            refine t_call_intro (hT) ?_
            simp only [n0, q0, q1, q2, q2', q2'', q2n, go_sem]
            refine t_call_intro (hT2) ?_
            simp only [qe, qe', go_sem]
            simp only [aresult, ares, go_sem]
            try rfl
        · have q2 : ((kd : Int) == 2) = false := by simp; omega
          have q2n : ((kd : Int) != 2) = true := by simp; omega
          have hr : decV s.data.toList a = (vl0, 0, 5) := by simp [decV, hU, h0, h1, h2]
          rw [hr]
          refine den_of_body k_ref05_Decode ⟨rfl, Nat.le_of_ble_eq_true rfl, thaw_intro ?_⟩
          unfold c_ref05_Decode
          simp only [go_sem]
          refine t_call_intro (hT) ?_
          simp only [n0, q0, q1, q2, q2n, go_sem]
          simp only [aresult, ares, go_sem]
          try rfl
  · have qe : (e != 0) = true := by simp [he]
    have hr : decV s.data.toList a = (vl0, 0, e) := by simp [decV, hU, he]
    rw [hr]
    refine den_of_body k_ref05_Decode ⟨rfl, Nat.le_of_ble_eq_true rfl, thaw_intro ?_⟩
    unfold c_ref05_Decode
    simp only [go_sem]
    refine t_call_intro (hT) ?_
    simp only [qe, go_sem]
    simp only [aresult, ares, go_sem]
    try rfl
end Go.Proofs.Ytbiongfnbbnndaa
