/- Chapter 36: what is encoded is decoded. -/
import Derived.Test.YtemeiopghbpamaaBp
set_option linter.unusedSimpArgs false
set_option linter.unusedVariables false
namespace Go.Proofs.Ytemeiopghbpamaa
open Go Ab Go.RowKit
set_option maxRecDepth 100000
attribute [local irreducible] awp aops aop asoft aeff aloop acall acallI acallT
attribute [local go_sem] Vl.row sRow

theorem en00 : (⟨#[]⟩ : ByteArray).toList = [] := by rw [ByteArray.toList_eq]
theorem nbq {s : ByteArray} (h : 1 ≤ s.size) : (s.toList == []) = false := by rw [size0]; exact decide_eq_false (by omega)
theorem zeq0 : ((0 : Int) == 0) = true := rfl
def okE (r : Req) : Bool := reqE r == 0
def gd (l : List Req) (k : Nat) : Bool := decide (l.length ≤ 64) && (l.take k).all okE
theorem gd_zero (l : List Req) : decide ((l.length : Int) ≤ 64) = gd l 0 := by
  unfold gd
  rw [List.take_zero, List.all_nil, Bool.and_true]
  exact decide_eq_decide.2 (by omega)
theorem gd_succ (l : List Req) (k : Nat) (h : k < l.length) : gd l (k + 1) = (gd l k && okE l[k]) := by
  unfold gd; rw [all_step okE l k h, Bool.and_assoc]
theorem gd_all (l : List Req) : gd l l.length = true ↔ goodL l := by
  unfold gd goodL
  rw [List.take_length, Bool.and_eq_true, decide_eq_true_eq, List.all_eq_true]
  simp [okE]
theorem rqB_pos (r : Req) (he : reqE r = 0) : 1 ≤ (reqB r).size := by
  rw [← dsize]; exact rqL_pos r he
theorem rt_req (r : Req) (hf : r.fit) (he : reqE r = 0) (s : ByteArray) : decReq (reqB r ++ s).data.toList 0 = (r, ((reqB r).size : Int), 0) := by
  refine decReq_RT _ 0 _ r hf he ?_
  have h := At.whole [] (reqB r).data.toList s.data.toList
  rw [List.nil_append, dsize] at h
  rw [app_L]
  have e : ((([] : List UInt8).length : Nat) : Int) + ((reqB r).size : Int) = ((reqB r).size : Int) := by simp
  rw [e] at h
  exact h
theorem rt_reqs (l : List Req) (hg : goodL l) (hf : ∀ r ∈ l, r.fit) (s : ByteArray) : decReqs (encReqs l ++ s).data.toList 0 = (l, ((encReqs l).size : Int), 0) := by
  refine decReqs_RT _ 0 _ l hg hf ?_
  have h := At.whole [] (encReqs l).data.toList s.data.toList
  rw [List.nil_append, dsize] at h
  rw [app_L]
  have e : ((([] : List UInt8).length : Nat) : Int) + ((encReqs l).size : Int) = ((encReqs l).size : Int) := by simp
  rw [e] at h
  exact h
theorem encReqs_pos (l : List Req) (h : goodL l) : 1 ≤ (encReqs l).size := by
  rw [← dsize, encReqs_L l h, List.length_append]
  have := vint_pos l.length (by rw [Cw.m64]; have := h.1; omega)
  omega
theorem encReqs_le (l : List Req) (hf : ∀ r ∈ l, r.fit) : (encReqs l).size ≤ 13000000 := by
  unfold encReqs
  split
  · exact Nat.zero_le _
  · split
    · have := encH_size l (by omega) hf l.length (Nat.le_refl _)
      have : l.length * 200000 ≤ 64 * 200000 := Nat.mul_le_mul_right _ (by omega)
      omega
    · exact Nat.zero_le _
theorem cut_L (s : ByteArray) (n : Nat) : (s.extract 0 n).data.toList = s.data.toList.take n := by
  simp [ByteArray.data_extract]
set_option maxHeartbeats 8000000 in
theorem BatchRoundTrips_den (l : List Req) (s : ByteArray) (hl : Reqs.fit l) : PDen Try.prog 4 [.a (.slice 8 (l.map Req.row)), .a (.str s)] (.a (.bool true)) := by
  have fa := few_den l
  have e1 := encReqs_den l (by have := hl.len; omega) hl.all
  cases h1 : fewL l with
  | false =>
    rw [h1] at fa
    refine den_of_body k_law36_BatchRoundTrips ⟨rfl, Nat.le_of_ble_eq_true rfl, thaw_intro ?_⟩
    unfold c_law36_BatchRoundTrips
    simp only [go_sem]
    refine t_call_intro (fa) ?_
    simp only [go_sem]
    refine t_call_intro (works_den) ?_
    simp only [go_sem]
    simp only [aresult, ares, go_sem]
  | true =>
  rw [h1] at fa
  by_cases hs : s.size ≤ 3000
  rotate_left
  · have q : (3000 : Int) < (s.size : Int) := by omega
    refine den_of_body k_law36_BatchRoundTrips ⟨rfl, Nat.le_of_ble_eq_true rfl, thaw_intro ?_⟩
    unfold c_law36_BatchRoundTrips
    simp only [go_sem]
    refine t_call_intro (fa) ?_
    simp only [q, go_sem]
    refine t_call_intro (works_den) ?_
    simp only [go_sem]
    simp only [aresult, ares, go_sem]
  have q : ¬ (3000 : Int) < (s.size : Int) := by omega
  have hc : l.length ≤ 70 := by
    unfold fewL at h1
    rw [Bool.and_eq_true, decide_eq_true_eq] at h1
    exact h1.1
  have g0 := gd_zero l
  refine den_of_body k_law36_BatchRoundTrips ⟨rfl, Nat.le_of_ble_eq_true rfl, thaw_intro ?_⟩
  unfold c_law36_BatchRoundTrips
  simp only [go_sem]
  refine t_call_intro (fa) ?_
  simp only [q, go_sem]
  refine t_call_intro (e1) ?_
  simp only [g0, go_sem]
  refine t_loop_intro (fun k : Nat => k ≤ l.length) (fun k => l.length - k) 0 [4, 6, 7, 8, 9, 10, 11, 29, 30, 31, 32, 33, 34, 35, 36, 37, 38, 39, 40, 41, 42, 43, 44, 45, 46, 47, 48, 49, 50, 51, 52, 53, 54, 55, 56, 57, 58, 59, 60, 61, 62, 63, 64, 65, 66, 67, 68, 69, 70, 71, 72, 73, 74, 75, 76, 77, 78, 79, 80, 81, 82] (fun k => [(6, .a (.bool (gd l k))), (7, .a (.int .i64 k))]) (by omega) (by simp) (fun k => by simp) rfl ?_
  intro k hk fr_ hfr
  simp only [go_sem] at hfr
  subst hfr
  by_cases hlt : k < l.length
  · have h1 : (k : Int) < (l.length : Int) := by omega
    have e := getD_map Req.row l k hlt
    have er := rowr l[k]
    have ew := wrap1 k l.length hlt (by omega)
    have hf : l[k].fit := hl.all _ (List.getElem_mem hlt)
    have gs := gd_succ l k hlt
    have b1 := reqB_den l[k] hf
    have b2 := rreqE_den l[k] hf
    have sz := reqB_size l[k] hf
    have sm := rsame_den l[k] l[k] hf.fits
    rw [reqEq_refl] at sm
    have d := decReq_den (reqB l[k] ++ s) 0 (by rw [ByteArray.size_append]; omega)
    by_cases hE : reqE l[k] = 0
    · have hp := rqB_pos l[k] hE
      have hn := nbq hp
      rw [rt_req l[k] hf hE s] at d
      unfold decReqV at d
      simp only at d
      have okk : okE l[k] = true := by simp [okE, hE]
      rw [okk, Bool.and_true] at gs
      rw [hE] at b2
      rw [er] at e b1 b2 sm d
      cases hg : gd l k
      all_goals (
        simp only [h1, e, go_sem]
        refine t_call_intro (b1) ?_
        simp only [hn, en00, h1, e, go_sem]
        refine t_call_intro (b2) ?_
        simp only [hn, en00, zeq0, beq_self_eq_true, go_sem]
        refine t_gate_intro (by omega) ?_
        simp only [go_sem]
        refine t_call_intro (d) ?_
        simp only [hn, en00, z00, bne_self_eq_false, h1, e, go_sem]
        refine t_call_intro (sm) ?_
        simp only [ew, go_sem]
        refine t_round (k + 1) (by omega) (by omega) (by first | (simp; done) | simp [gs, hg]) rfl rfl (by simp) rfl
      )
    · have hB := reqB_none l[k] hE
      rw [hB] at b1 d
      have n1 : (reqE l[k] == 0) = false := by simpa using hE
      have okk : okE l[k] = false := n1
      rw [okk, Bool.and_false] at gs
      generalize hX : decReq ((⟨#[]⟩ : ByteArray) ++ s).data.toList 0 = X at d
      obtain ⟨x, n, e'⟩ := X
      unfold decReqV at d
      simp only at d
      rw [rowr x] at d
      rw [er] at e b1 b2
      have zs : (⟨#[]⟩ : ByteArray).size = 0 := rfl
      cases hg : gd l k
      all_goals (
        simp only [h1, e, go_sem]
        refine t_call_intro (b1) ?_
        simp only [en00, beq_self_eq_true, h1, e, go_sem]
        refine t_call_intro (b2) ?_
        simp only [en00, n1, beq_self_eq_true, go_sem]
        refine t_gate_intro (by first | (rw [zs]; omega) | (simp; omega)) ?_
        simp only [go_sem]
        refine t_call_intro (d) ?_
        simp only [en00, beq_self_eq_true, ew, go_sem]
        refine t_round (k + 1) (by omega) (by omega) (by first | (simp; done) | simp [gs, hg]) rfl rfl (by simp) rfl
      )
  · have h1 : ¬ (k : Int) < (l.length : Int) := by omega
    have ek : k = l.length := by omega
    subst ek
    have d3 := decReqs_den s 0 (by omega)
    have hF := decReqs_fit s.data.toList 0 (by rw [dsize]; omega)
    have hL := decReqs_len s.data.toList 0
    have hIS := fun rs n h => decReqs_IS s.data.toList 0 n rs (by rw [dsize]; omega) h
    unfold decReqsV at d3
    generalize decReqs s.data.toList 0 = X at d3 hF hL hIS
    obtain ⟨m, n, e⟩ := X
    simp only at d3 hF hL hIS
    have em := encReqs_den m (by omega) hF
    have hz := encReqs_le l hl.all
    have d2 := decReqs_den (encReqs l ++ s) 0 (by rw [ByteArray.size_append]; omega)
    by_cases hg : goodL l
    · have gt := (gd_all l).2 hg
      have hn := nbq (encReqs_pos l hg)
      rw [rt_reqs l hg hl.all s] at d2
      unfold decReqsV at d2
      simp only at d2
      have sm := rsamelist_den l l (by omega) fun r hr => (hl.all r hr).fits
      rw [reqsEq_refl] at sm
      by_cases he : e = 0
      · subst he
        obtain ⟨hA, hG, h0⟩ := hIS m n rfl
        have hA2 := hA.len
        have hA3 := hA.eq
        have hq : encReqs m = s.extract 0 n.toNat := ByteArray.ext (Array.toList_inj.1 (by rw [hA3, cut_L]))
        have hA4 : n ≤ (s.size : Int) := by rw [← dsize]; exact hA2.2.2
        have p1 : (1 : Int) ≤ n := by omega
        have p0 : (0 : Int) ≤ n := by omega
        simp only [h1, gt, go_sem]
        simp only [hn, en00, beq_self_eq_true, go_sem]
        refine t_gate_intro (by omega) ?_
        simp only [go_sem]
        refine t_call_intro (d2) ?_
        simp only [z00, bne_self_eq_false, go_sem]
        refine t_call_intro (sm) ?_
        simp only [go_sem]
        refine t_call_intro (d3) ?_
        simp only [z00, p1, hA4, go_sem]
        refine t_call_intro (em) ?_
        simp only [p0, hA4, hq, beq_self_eq_true, go_sem]
        refine t_call_intro (works_den) ?_
        simp only [go_sem]
        simp only [aresult, ares, go_sem]
      · have n2 : (e != 0) = true := by simpa using he
        simp only [h1, gt, go_sem]
        simp only [hn, en00, beq_self_eq_true, go_sem]
        refine t_gate_intro (by omega) ?_
        simp only [go_sem]
        refine t_call_intro (d2) ?_
        simp only [z00, bne_self_eq_false, go_sem]
        refine t_call_intro (sm) ?_
        simp only [go_sem]
        refine t_call_intro (d3) ?_
        simp only [n2, go_sem]
        refine t_call_intro (works_den) ?_
        simp only [go_sem]
        simp only [aresult, ares, go_sem]
    · have gt : gd l l.length = false := by
        cases hv : gd l l.length with
        | false => rfl
        | true => exact absurd ((gd_all l).1 hv) hg
      have hN := encReqs_none l hg
      rw [hN] at d2
      generalize decReqs ((⟨#[]⟩ : ByteArray) ++ s).data.toList 0 = X at d2
      obtain ⟨y, n', e'⟩ := X
      unfold decReqsV at d2
      simp only at d2
      by_cases he : e = 0
      · subst he
        obtain ⟨hA, hG, h0⟩ := hIS m n rfl
        have hA2 := hA.len
        have hA3 := hA.eq
        have hq : encReqs m = s.extract 0 n.toNat := ByteArray.ext (Array.toList_inj.1 (by rw [hA3, cut_L]))
        have hA4 : n ≤ (s.size : Int) := by rw [← dsize]; exact hA2.2.2
        have p1 : (1 : Int) ≤ n := by omega
        have p0 : (0 : Int) ≤ n := by omega
        have zs : (⟨#[]⟩ : ByteArray).size = 0 := rfl
        simp only [h1, gt, hN, en00, beq_self_eq_true, go_sem]
        refine t_gate_intro (by first | (rw [zs]; omega) | (simp; omega)) ?_
        simp only [go_sem]
        refine t_call_intro (d2) ?_
        simp only [go_sem]
        refine t_call_intro (d3) ?_
        simp only [z00, p1, hA4, go_sem]
        refine t_call_intro (em) ?_
        simp only [p0, hA4, hq, beq_self_eq_true, go_sem]
        refine t_call_intro (works_den) ?_
        simp only [go_sem]
        simp only [aresult, ares, go_sem]
      · have n2 : (e != 0) = true := by simpa using he
        have zs : (⟨#[]⟩ : ByteArray).size = 0 := rfl
        simp only [h1, gt, hN, en00, beq_self_eq_true, go_sem]
        refine t_gate_intro (by first | (rw [zs]; omega) | (simp; omega)) ?_
        simp only [go_sem]
        refine t_call_intro (d2) ?_
        simp only [go_sem]
        refine t_call_intro (d3) ?_
        simp only [n2, go_sem]
        refine t_call_intro (works_den) ?_
        simp only [go_sem]
        simp only [aresult, ares, go_sem]
end Go.Proofs.Ytemeiopghbpamaa
