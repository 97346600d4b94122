/- Chapter 53: Update of the reference. -/
import Derived.Test.YtknmjfojlnajjaaDv
set_option linter.unusedSimpArgs false
set_option linter.unusedVariables false
namespace Go.Proofs.Ytknmjfojlnajjaa
open Go Ab Go.RowKit
set_option maxRecDepth 100000
attribute [local irreducible] awp aops aop asoft aeff aloop acall acallI acallT
attribute [local go_sem] Vl.row Pr.row

theorem updB_at (bs : List Nat) (a x y i : Nat) (h : i < bs.length) : (updB bs a x y)[i]'(by rw [updB_len]; exact h) = if a = i then (bs[i] ^^^ x) ^^^ y else bs[i] := by
  unfold updB
  rw [List.getElem_set]
  split
  · rename_i e; subst e; simp [h]
  · rfl
theorem updB_getD (bs : List Nat) (a x y i : Nat) (h : i < bs.length) : (updB bs a x y).getD i 0 = if a = i then (bs[i] ^^^ x) ^^^ y else bs[i] := by
  rw [← updB_at bs a x y i h, List.getD_eq_getElem?_getD, List.getElem?_eq_getElem]; rfl
theorem upR_stepD (bs : List Nat) (k : Nat) (h : k < bs.length) : upR bs k ++ [[.int .u64 ((bs.getD k 0 : Nat) : Int)]] = upR bs (k + 1) := by
  rw [← upR_step bs k h, List.getD_eq_getElem?_getD, List.getElem?_eq_getElem h]; rfl
theorem updB_fit (bs : List Nat) (a x y : Nat) (h : ∀ z ∈ bs, z < 18446744073709551616) (hx : x < 18446744073709551616) (hy : y < 18446744073709551616) : ∀ z ∈ updB bs a x y, z < 18446744073709551616 := by
  intro z hz
  obtain ⟨i, hi, rfl⟩ := List.mem_iff_getElem.1 hz
  rw [updB_len] at hi
  rw [updB_at bs a x y i hi]
  split
  · exact xor_lt _ _ (xor_lt _ _ (h _ (List.getElem_mem hi)) hx) hy
  · exact h _ (List.getElem_mem hi)
theorem vT_len {t : Tr} (h : vT t = true) : t.bs.length = 64 := by unfold vT at h; rw [Bool.and_eq_true] at h; exact of_decide_eq_true h.1
def trA (x : Tr × Int) : AV := .tup [.agg x.1.row, .a (.int .i64 x.2)]
theorem vl_row (v : Vl) : v.row = [.int .i64 v.kind, .int .i64 v.n, .str v.s] := rfl
theorem pr_row (p : Pr) : p.row = [.str p.key, .int .i64 p.v.kind, .int .i64 p.v.n, .str p.v.s] := rfl
set_option maxHeartbeats 4000000 in
theorem rupd_no (t : Tr) (o f : Pr) (ht : t.bs.length ≤ 1000000) (ft : t.fit) (fo : o.few) (ff : f.few) (h : okU t o f = false) :
    PDen Try.prog 17 [.agg t.row, .agg o.row, .agg f.row] (.tup [.agg [.nils, .int .u64 0], .a (.int .i64 1)]) := by
  have va := rvalid_den t ht ft
  have hk := rkeyV_den o.key (by have := fo.ks; omega)
  have hv1 := rvalV_den o.v (by have := fo.vs; omega)
  have hv2 := rvalV_den f.v (by have := ff.vs; omega)
  rw [vl_row] at hv1 hv2
  have ra : t.row = [.slice 1 (t.bs.map u64R), .int .u64 (t.root : Int)] := rfl
  rw [ra] at va ⊢
  unfold okU at h
  refine den_of_body k_ref53_Update ⟨rfl, Nat.le_of_ble_eq_true rfl, thaw_intro ?_⟩
  unfold c_ref53_Update
  simp only [go_sem]
  refine t_call_intro (va) ?_
  cases h1 : vT t with
  | false =>
    simp only [go_sem]
    simp only [aresult, ares, go_sem]
  | true =>
    cases h2 : (o.key.toList == f.key.toList) with
    | false =>
      simp only [h2, go_sem]
      simp only [aresult, ares, go_sem]
    | true =>
      simp only [h2, go_sem]
      refine t_call_intro (hk) ?_
      cases h3 : keyV o.key with
      | false =>
        simp only [go_sem]
        simp only [aresult, ares, go_sem]
      | true =>
        simp only [go_sem]
        refine t_call_intro (hv1) ?_
        cases h4 : valV o.v with
        | false =>
          simp only [go_sem]
          simp only [aresult, ares, go_sem]
        | true =>
          simp only [go_sem]
          refine t_call_intro (hv2) ?_
          cases h5 : valV f.v with
          | false =>
            simp only [go_sem]
            simp only [aresult, ares, go_sem]
          | true => rw [h1, h2, h3, h4, h5] at h; cases h
set_option maxHeartbeats 8000000 in
theorem rupd_yes (t : Tr) (o f : Pr) (ft : t.fit) (fo : o.few) (ff : f.few) (h : okU t o f = true) :
    PDen Try.prog 17 [.agg t.row, .agg o.row, .agg f.row] (trA (⟨updB t.bs (bktN o.key) (chg o) (chg f), rootN (updB t.bs (bktN o.key) (chg o) (chg f))⟩, 0)) := by
  have va := rvalid_den t (by unfold okU at h; simp only [Bool.and_eq_true] at h; rw [vT_len h.1.1.1.1]; decide) ft
  have hk := rkeyV_den o.key (by have := fo.ks; omega)
  have hv1 := rvalV_den o.v (by have := fo.vs; omega)
  have hv2 := rvalV_den f.v (by have := ff.vs; omega)
  have hbk := rbucket_den o.key (by have := fo.ks; omega)
  have hc1 := change_den o fo
  have hc2 := change_den f ff
  have b1 := chg_lt o
  have b2 := chg_lt f
  unfold okU at h
  simp only [Bool.and_eq_true] at h
  obtain ⟨⟨⟨⟨h1, h2⟩, h3⟩, h4⟩, h5⟩ := h
  have hlen := vT_len h1
  rw [h1] at va
  rw [h3] at hk
  rw [h4] at hv1
  rw [h5] at hv2
  rw [vl_row] at hv1 hv2
  rw [pr_row] at hc1 hc2
  have ra : t.row = [.slice 1 (t.bs.map u64R), .int .u64 (t.root : Int)] := rfl
  rw [ra] at va ⊢
  have hul := updB_len t.bs (bktN o.key) (chg o) (chg f)
  have hroot := rroot_den ⟨updB t.bs (bktN o.key) (chg o) (chg f), 0⟩ (by show (updB t.bs (bktN o.key) (chg o) (chg f)).length ≤ 1000000; omega) ⟨updB_fit _ _ _ _ ft.bs b1 b2, by show 0 < 18446744073709551616; decide⟩
  rw [row_mk] at hroot
  change PDen Try.prog _ [.agg [.slice 1 ((updB t.bs (bktN o.key) (chg o) (chg f)).map u64R), .int .u64 0]] (.a (.int .u64 ((rootN (updB t.bs (bktN o.key) (chg o) (chg f)) : Nat) : Int))) at hroot
  have hat := fun i hi => updB_getD t.bs (bktN o.key) (chg o) (chg f) i hi
  unfold trA
  rw [row_mk]
  generalize hC1 : chg o = C1 at *
  generalize hC2 : chg f = C2 at *
  generalize hA : bktN o.key = A at *
  generalize hU : updB t.bs A C1 C2 = U at *
  generalize rootN U = R at *
  have hz := upR_zero U
  refine den_of_body k_ref53_Update ⟨rfl, Nat.le_of_ble_eq_true rfl, thaw_intro ?_⟩
  unfold c_ref53_Update
  simp only [go_sem]
  refine t_call_intro (va) ?_
  simp only [h2, go_sem]
  refine t_call_intro (hk) ?_
  simp only [go_sem]
  refine t_call_intro (hv1) ?_
  simp only [go_sem]
  refine t_call_intro (hv2) ?_
  simp only [go_sem]
  refine t_loopO_intro [.cell 4 0 24 1] (fun k : Nat => k ≤ 64) (fun k => 64 - k) 0 [9, 10, 41, 42, 43, 44, 45, 46, 47, 48, 49, 50, 51, 52, 53, 54, 55, 56, 57, 58, 59, 60, 61, 62, 63, 64, 65, 66, 67] (fun k => [(9, .a (.int .i64 k))]) (fun k => [[.a (.slice 1 (t.bs.map u64R)), .a (.int .u64 (t.root : Int))], [.a (.str o.key), .a (.int .i64 o.v.kind), .a (.int .i64 o.v.n), .a (.str o.v.s)], [.a (.str f.key), .a (.int .i64 f.v.kind), .a (.int .i64 f.v.n), .a (.str f.v.s)], [.a .nils, .a (.int .u64 0)], [.own 0, .a (.int .u64 0)]]) (fun k => [⟨24, 1, upR U k, false⟩]) (by omega) (by simp) (by first | (simp; done) | simp [hz]) (by first | (simp; done) | simp [hz]) (by first | (simp; done) | simp [hz]) (fun k => by first | (simp; done) | simp [hz]) (fun k => by first | (simp; done) | simp [hz]) (fun k => by first | (simp; done) | simp [hz]) ?_
  intro k hk st_ hst
  simp only [go_sem] at hst
  subst hst
  by_cases hlt : k < 64
  · have q : (k : Int) < 64 := by omega
    have h6 : (k : Int) < (t.bs.length : Int) := by omega
    have hka : k < t.bs.length := by omega
    have e1 := u64R_get t.bs k hka
    have ew := wrap1 k 64 hlt (by omega)
    have hln := upR_len U k
    have hst := upR_stepD U k (by omega)
    rw [hat k hka] at hst
    simp only [q, h6, e1, go_sem]
    refine t_call_intro (hbk) ?_
    by_cases hb : A = k
    · have hbi : (((k : Nat) : Int) == ((A : Nat) : Int)) = true := by rw [hb]; simp
      rw [if_pos hb] at hst
      have b0 := ft.bs _ (List.getElem_mem hka)
      have hx := bx64 t.bs[k] C1 b0 b1
      have hy := bx64 (t.bs[k] ^^^ C1) C2 (xor_lt _ _ b0 b1) b2
      simp only [hbi, go_sem]
      refine t_call_intro (hc1) ?_
      simp only [hx, go_sem]
      refine t_call_intro (hc2) ?_
      simp only [hy, go_sem]
      refine t_gate_intro (by omega) ?_
      simp only [hst, ew, go_sem]
      refine t_roundO (k + 1) (by omega) (by omega) (by simp) (by simp) (by simp) (by simp) (by simp)
    · have hbi : (((k : Nat) : Int) == ((A : Nat) : Int)) = false := by simp; omega
      rw [if_neg hb] at hst
      simp only [hbi, go_sem]
      refine t_gate_intro (by omega) ?_
      simp only [hst, ew, go_sem]
      refine t_roundO (k + 1) (by omega) (by omega) (by simp) (by simp) (by simp) (by simp) (by simp)
  · have q : ¬ (k : Int) < 64 := by omega
    have hal := upR_all U k (by omega)
    simp only [q, hal, go_sem]
    refine t_call_intro (hroot) ?_
    simp only [go_sem]
    simp only [aresult, ares, go_sem]
theorem rupd_den (t : Tr) (o f : Pr) (ht : t.bs.length ≤ 1000000) (ft : t.fit) (fo : o.few) (ff : f.few) :
    PDen Try.prog 17 [.agg t.row, .agg o.row, .agg f.row] (trA (updT t o f)) := by
  unfold updT
  cases h : okU t o f with
  | false =>
    rw [if_neg (by simp)]
    exact (rupd_no t o f ht ft fo ff h).le (VLe.tup ⟨VLe.agg ⟨RLe.nils 1, RLe.refl _, trivial⟩, VLe.refl _, trivial⟩)
  | true =>
    rw [if_pos rfl]
    exact rupd_yes t o f ft fo ff h
end Go.Proofs.Ytknmjfojlnajjaa
