/- Chapter 53: Update of the program. -/
import Derived.Test.YtknmjfojlnajjaaDq
set_option linter.unusedSimpArgs false
set_option linter.unusedVariables false
namespace Go.Proofs.Ytknmjfojlnajjaa
open Go Ab Go.RowKit
set_option maxRecDepth 100000
attribute [local irreducible] awp aops aop asoft aeff aloop acall acallI acallT
attribute [local go_sem] Vl.row Pr.row

theorem arrA_set (bs : List Nat) (A v : Nat) (h : A < bs.length) : ((bs.map u64A).map AV.a).take A ++ [.a (.int .u64 (v : Int))] ++ ((bs.map u64A).map AV.a).drop (A + 1) = ((bs.set A v).map u64A).map AV.a := by
  rw [List.set_eq_take_append_cons_drop, if_pos h]
  simp [u64A, List.map_take, List.map_drop]
theorem chg_eq (p : Pr) : chg p = if p.v.kind = 0 then 0 else pairN p := rfl
theorem updB_00 (bs : List Nat) (A : Nat) (h : A < bs.length) : updB bs A 0 0 = bs := by
  unfold updB
  rw [Nat.xor_zero, Nat.xor_zero, List.getD_eq_getElem?_getD, List.getElem?_eq_getElem h]
  exact List.set_getElem_self h
theorem updB_x0 (bs : List Nat) (A x : Nat) (h : A < bs.length) : updB bs A x 0 = bs.set A (bs[A] ^^^ x) := by
  unfold updB
  rw [Nat.xor_zero, List.getD_eq_getElem?_getD, List.getElem?_eq_getElem h]; rfl
theorem updB_0y (bs : List Nat) (A y : Nat) (h : A < bs.length) : updB bs A 0 y = bs.set A (bs[A] ^^^ y) := by
  unfold updB
  rw [Nat.xor_zero, List.getD_eq_getElem?_getD, List.getElem?_eq_getElem h]; rfl
theorem updB_xy (bs : List Nat) (A x y : Nat) (h : A < bs.length) : updB bs A x y = (bs.set A (bs[A] ^^^ x)).set A (((bs.set A (bs[A] ^^^ x))[A]'(by simpa using h)) ^^^ y) := by
  unfold updB
  rw [List.getElem_set_self, List.set_set, List.getD_eq_getElem?_getD, List.getElem?_eq_getElem h]; rfl
set_option maxHeartbeats 4000000 in
theorem upd_no (t : Tr) (o f : Pr) (ht : t.bs.length ≤ 1000000) (fo : o.few) (ff : f.few) (h : okU t o f = false) :
    PDen Try.prog 16 [.agg t.row, .agg o.row, .agg f.row] (.tup [.agg [.nils, .int .u64 0], .a (.int .i64 1)]) := by
  have va := buckets_den t ht
  have la := bcA_len t
  have hk := keyV_den o.key (by have := fo.ks; omega)
  have hv1 := valV_den o.v (by have := fo.vs; omega)
  have hv2 := valV_den f.v (by have := ff.vs; omega)
  rw [vl_row] at hv1 hv2
  rw [tr_row] at va ⊢
  unfold okU at h
  generalize bcA t = B at *
  have tA : (B.map AV.a).take 64 = B.map AV.a := List.take_of_length_le (by rw [List.length_map, la]; exact Nat.le_refl _)
  refine den_of_body k_digest_Update ⟨rfl, Nat.le_of_ble_eq_true rfl, thaw_intro ?_⟩
  unfold c_digest_Update
  simp only [go_sem]
  refine t_call_intro (va) ?_
  simp only [la, go_sem]
  cases h1 : vT t with
  | false =>
    simp only [go_sem]
    simp only [aresult, ares, go_sem]
  | true =>
    cases h2 : (o.key.toList == f.key.toList) with
    | false =>
      simp only [h2, go_sem]
      simp only [aresult, ares, go_sem]
    | true =>
      simp only [h2, go_sem]
      refine t_call_intro (hk) ?_
      cases h3 : keyV o.key with
      | false =>
        simp only [go_sem]
        simp only [aresult, ares, go_sem]
      | true =>
        simp only [go_sem]
        refine t_call_intro (hv1) ?_
        cases h4 : valV o.v with
        | false =>
          simp only [go_sem]
          simp only [aresult, ares, go_sem]
        | true =>
          simp only [go_sem]
          refine t_call_intro (hv2) ?_
          cases h5 : valV f.v with
          | false =>
            simp only [go_sem]
            simp only [aresult, ares, go_sem]
          | true => rw [h1, h2, h3, h4, h5] at h; cases h
set_option maxHeartbeats 8000000 in
theorem upd_yes (t : Tr) (o f : Pr) (ft : t.fit) (fo : o.few) (ff : f.few) (h : okU t o f = true) :
    PDen Try.prog 16 [.agg t.row, .agg o.row, .agg f.row] (trA (⟨updB t.bs (bktN o.key) (chg o) (chg f), rootN (updB t.bs (bktN o.key) (chg o) (chg f))⟩, 0)) := by
  have hk := keyV_den o.key (by have := fo.ks; omega)
  have hv1 := valV_den o.v (by have := fo.vs; omega)
  have hv2 := valV_den f.v (by have := ff.vs; omega)
  have hbk := bucket_den o.key (by have := fo.ks; omega)
  have hp1 := pair_den o fo
  have hp2 := pair_den f ff
  have p1 := pairN_lt o
  have p2 := pairN_lt f
  have c1 := chg_eq o
  have c2 := chg_eq f
  have hA := bktN_lt o.key
  unfold okU at h
  simp only [Bool.and_eq_true] at h
  obtain ⟨⟨⟨⟨h1, h2⟩, h3⟩, h4⟩, h5⟩ := h
  have hlen := vT_len h1
  have va := buckets_den t (by omega)
  have la := bcA_len t
  have eB : bcA t = t.bs.map u64A := if_pos h1
  rw [h1] at va
  rw [h3] at hk
  rw [h4] at hv1
  rw [h5] at hv2
  rw [vl_row] at hv1 hv2
  rw [pr_row] at hp1 hp2
  have hsd := sealed_den (updB t.bs (bktN o.key) (chg o) (chg f)) (by rw [updB_len]; exact hlen)
  rw [row_mk] at hsd
  unfold trA
  rw [row_mk]
  rw [tr_row] at va ⊢
  generalize chg o = C1 at *
  generalize chg f = C2 at *
  generalize bktN o.key = A at *
  generalize pairN o = P1 at *
  generalize pairN f = P2 at *
  generalize hU : updB t.bs A C1 C2 = U at *
  generalize rootN U = R at *
  generalize bcA t = B at *
  have hAl : A < t.bs.length := by omega
  have hAi : ((A : Nat) : Int) < 64 := by omega
  have tA : (B.map AV.a).take 64 = B.map AV.a := List.take_of_length_le (by rw [List.length_map, la]; exact Nat.le_refl _)
  have e1 := arrA_get t.bs A hAl
  rw [← eB] at e1
  have b0 := ft.bs _ (List.getElem_mem hAl)
  refine den_of_body k_digest_Update ⟨rfl, Nat.le_of_ble_eq_true rfl, thaw_intro ?_⟩
  unfold c_digest_Update
  simp only [go_sem]
  refine t_call_intro (va) ?_
  simp only [la, go_sem]
  simp only [h2, go_sem]
  refine t_call_intro (hk) ?_
  simp only [go_sem]
  refine t_call_intro (hv1) ?_
  simp only [go_sem]
  refine t_call_intro (hv2) ?_
  simp only [go_sem]
  refine t_call_intro (hbk) ?_
  simp only [go_sem]
  have hUl : U.length = 64 := by rw [← hU, updB_len]; exact hlen
  have lU : (U.map u64A).length = 64 := by rw [List.length_map]; exact hUl
  have tU : ((U.map u64A).map AV.a).take 64 = (U.map u64A).map AV.a := List.take_of_length_le (by rw [List.length_map, lU]; exact Nat.le_refl _)
  have mU := atomsOf_map [] (U.map u64A)
  by_cases ko : o.v.kind = 0
  · have q1 : (o.v.kind != 0) = false := by simp [ko]
    rw [if_pos ko] at c1
    subst c1
    simp only [q1, go_sem]
    by_cases kf : f.v.kind = 0
    · have q2 : (f.v.kind != 0) = false := by simp [kf]
      rw [if_pos kf] at c2
      subst c2
      rw [updB_00 _ _ hAl] at hU
      subst hU
      rw [eB]
      simp only [q2, tU, mU, lU, go_sem]
      refine t_call_intro (hsd) ?_
      simp only [go_sem]
      simp only [aresult, ares, go_sem]
    · have q2 : (f.v.kind != 0) = true := by simp [kf]
      rw [if_neg kf] at c2
      subst c2
      rw [updB_0y _ _ _ hAl] at hU
      have hst := arrA_set t.bs A (t.bs[A] ^^^ C2) hAl
      rw [hU, ← eB] at hst
      have hx := bx64 t.bs[A] C2 b0 p2
      simp only [q2, hAi, hA, la, e1, Nat.mul_one, Nat.zero_add, go_sem]
      repeat (refine t_gate_intro (by first | omega | (rw [la]; omega)) ?_; simp only [hAi, hA, la, e1, Nat.mul_one, Nat.zero_add, go_sem])
      refine t_call_intro (hp2) ?_
      simp only [hAi, hA, la, e1, hx, hst, Nat.mul_one, Nat.zero_add, go_sem]
      repeat (refine t_gate_intro (by first | omega | (rw [la]; omega)) ?_; simp only [hAi, hA, la, hx, hst, tU, mU, lU, Nat.mul_one, Nat.zero_add, go_sem])
      refine t_call_intro (hsd) ?_
      simp only [go_sem]
      simp only [aresult, ares, go_sem]
  · have q1 : (o.v.kind != 0) = true := by simp [ko]
    rw [if_neg ko] at c1
    subst c1
    obtain ⟨V, hV⟩ : ∃ V, V = t.bs.set A (t.bs[A] ^^^ C1) := ⟨_, rfl⟩
    have hVl : V.length = 64 := by rw [hV, List.length_set]; exact hlen
    have lV : (V.map u64A).length = 64 := by rw [List.length_map]; exact hVl
    have hst := arrA_set t.bs A (t.bs[A] ^^^ C1) hAl
    rw [← hV, ← eB] at hst
    have hx := bx64 t.bs[A] C1 b0 p1
    have hAV : A < V.length := by omega
    have eV : V[A] = t.bs[A] ^^^ C1 := by subst hV; exact List.getElem_set_self _
    have e2 := arrA_get V A hAV
    have bV : V[A] < 18446744073709551616 := by rw [eV]; exact xor_lt _ _ b0 p1
    simp only [q1, hAi, hA, la, e1, Nat.mul_one, Nat.zero_add, go_sem]
    repeat (refine t_gate_intro (by first | omega | (rw [la]; omega)) ?_; simp only [hAi, hA, la, e1, Nat.mul_one, Nat.zero_add, go_sem])
    refine t_call_intro (hp1) ?_
    simp only [hAi, hA, la, e1, hx, hst, Nat.mul_one, Nat.zero_add, go_sem]
    repeat (refine t_gate_intro (by first | omega | (rw [la]; omega)) ?_; simp only [hAi, hA, la, hx, hst, Nat.mul_one, Nat.zero_add, go_sem])
    by_cases kf : f.v.kind = 0
    · have q2 : (f.v.kind != 0) = false := by simp [kf]
      rw [if_pos kf] at c2
      subst c2
      rw [updB_x0 _ _ _ hAl, ← hV] at hU
      subst hU
      simp only [q2, tU, mU, lU, go_sem]
      refine t_call_intro (hsd) ?_
      simp only [go_sem]
      simp only [aresult, ares, go_sem]
    · have q2 : (f.v.kind != 0) = true := by simp [kf]
      rw [if_neg kf] at c2
      subst c2
      have hU2 : V.set A (V[A] ^^^ C2) = U := by
        rw [← hU, updB_xy _ _ _ _ hAl]
        subst hV; rfl
      have hst2 := arrA_set V A (V[A] ^^^ C2) hAV
      rw [hU2] at hst2
      have hx2 := bx64 V[A] C2 bV p2
      simp only [q2, hAi, hA, lV, e2, Nat.mul_one, Nat.zero_add, go_sem]
      repeat (refine t_gate_intro (by first | omega | (rw [lV]; omega)) ?_; simp only [hAi, hA, lV, e2, Nat.mul_one, Nat.zero_add, go_sem])
      refine t_call_intro (hp2) ?_
      simp only [hAi, hA, lV, e2, hx2, hst2, Nat.mul_one, Nat.zero_add, go_sem]
      repeat (refine t_gate_intro (by first | omega | (rw [lV]; omega)) ?_; simp only [hAi, hA, lV, hx2, hst2, tU, mU, lU, Nat.mul_one, Nat.zero_add, go_sem])
      refine t_call_intro (hsd) ?_
      simp only [go_sem]
      simp only [aresult, ares, go_sem]
theorem upd_den (t : Tr) (o f : Pr) (ht : t.bs.length ≤ 1000000) (ft : t.fit) (fo : o.few) (ff : f.few) :
    PDen Try.prog 16 [.agg t.row, .agg o.row, .agg f.row] (trA (updT t o f)) := by
  unfold updT
  cases h : okU t o f with
  | false =>
    rw [if_neg (by simp)]
    exact (upd_no t o f ht fo ff h).le (VLe.tup ⟨VLe.agg ⟨RLe.nils 1, RLe.refl _, trivial⟩, VLe.refl _, trivial⟩)
  | true =>
    rw [if_pos rfl]
    exact upd_yes t o f ft fo ff h
end Go.Proofs.Ytknmjfojlnajjaa
