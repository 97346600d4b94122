/- Chapter 36: five laws. -/
import Derived.Test.YtalebiebdmidoaaBn
namespace Go.Proofs.Ytalebiebdmidoaa
open Go Ab Go.RowKit
set_option maxRecDepth 100000
attribute [local irreducible] awp aops aop asoft aeff aloop acall acallI acallT
attribute [local go_sem] Vl.row sRow

set_option maxHeartbeats 4000000 in
theorem BatchValidates_den (a b : Req) (ha : a.fit) (hb : b.fit) : PDen Try.prog 3 [.agg a.row, .agg b.row] (.a (.bool true)) := by
  have fa := rfew_den a
  have fb := rfew_den b
  have e1 := reqE_den a ha
  have e2 := rreqE_den a ha
  have s1 := same_den a b ha.fits
  have s2 := rsame_den a b ha.fits
  have s3 := same_den a a ha.fits
  rw [reqEq_refl] at s3
  rw [rowr a] at fa e1 e2 s1 s2 s3 ⊢
  rw [rowr b] at fb s1 s2 ⊢
  refine den_of_body k_law36_BatchValidates ⟨rfl, Nat.le_of_ble_eq_true rfl, thaw_intro ?_⟩
  unfold c_law36_BatchValidates
  simp only [go_sem]
  refine t_call_intro (fa) ?_
  cases h1 : fewR a with
  | false =>
    simp only [go_sem]
    refine t_call_intro (works_den) ?_
    simp only [go_sem]
    simp only [aresult, ares, go_sem]
  | true =>
    simp only [go_sem]
    refine t_call_intro (fb) ?_
    cases h2 : fewR b with
    | false =>
      simp only [go_sem]
      refine t_call_intro (works_den) ?_
      simp only [go_sem]
      simp only [aresult, ares, go_sem]
    | true =>
      simp only [go_sem]
      refine t_call_intro (e1) ?_
      simp only [go_sem]
      refine t_call_intro (e2) ?_
      simp only [beq_self_eq_true, go_sem]
      refine t_call_intro (s1) ?_
      simp only [go_sem]
      refine t_call_intro (s2) ?_
      simp only [beq_self_eq_true, go_sem]
      refine t_call_intro (s3) ?_
      simp only [go_sem]
      refine t_call_intro (works_den) ?_
      simp only [go_sem]
      simp only [aresult, ares, go_sem]
/-! What is decoded -/
theorem decReq_fit (l : List UInt8) (a : Int) (hl : l.length ≤ 1073741824) : (decReq l a).1.fit := by
  have h0 : req0.fit := rc_fit 0
  unfold decReq
  split
  · exact h0
  · split
    · exact h0
    · split
      · exact h0
      · exact rqX_fit l a hl
theorem rsSt_fit (l : List UInt8) (a : Int) (hl : l.length ≤ 1073741824) : ∀ k, ∀ r ∈ (rsSt l a k).1, r.fit
  | 0, r, h => by cases h
  | k + 1, r, h => by
    by_cases he : (rsSt l a k).2.2 = 0
    · rw [rsSt_ok l a k he] at h
      rcases List.mem_append.1 h with h | h
      · exact rsSt_fit l a hl k r h
      · rw [List.mem_singleton.1 h]; exact decReq_fit l _ hl
    · have e := rsSt_err l a k he (k + 1) (by omega)
      rw [e] at h
      exact rsSt_fit l a hl k r h
theorem rsSt_len (l : List UInt8) (a : Int) : ∀ k, (rsSt l a k).1.length ≤ k
  | 0 => Nat.le_refl _
  | k + 1 => by
    have ih := rsSt_len l a k
    by_cases he : (rsSt l a k).2.2 = 0
    · rw [rsSt_ok l a k he]; simp; omega
    · rw [rsSt_err l a k he (k + 1) (by omega)]; omega
theorem decReqs_fit (l : List UInt8) (a : Int) (hl : l.length ≤ 1073741824) : ∀ r ∈ (decReqs l a).1, r.fit := by
  unfold decReqs
  split
  · intro r h; cases h
  · split
    · intro r h; cases h
    · exact rsSt_fit l _ hl _
theorem decReqs_len (l : List UInt8) (a : Int) : (decReqs l a).1.length ≤ 64 := by
  have h64 := rqC64_le l a
  have hk := rsSt_len l (Cw.takeC l a 64).2.1 (Cw.takeC l a 64).1
  have h64 : ((Cw.takeC l a 64).1 : Int) ≤ 64 := h64
  unfold decReqs
  split
  · exact Nat.zero_le _
  · split
    · exact Nat.zero_le _
    · omega
set_option maxHeartbeats 4000000 in
theorem BatchCodesRequests_den (r : Req) (s : ByteArray) (at_ : Int) (hr : r.fit) : PDen Try.prog 4 [.agg r.row, .a (.str s), .a (.int .i64 at_)] (.a (.bool true)) := by
  have fa := rfew_den r
  have e1 := reqB_den r hr
  have e2 := rreqB_den r hr
  rw [rowr r] at fa e1 e2 ⊢
  refine den_of_body k_law36_BatchCodesRequests ⟨rfl, Nat.le_of_ble_eq_true rfl, thaw_intro ?_⟩
  unfold c_law36_BatchCodesRequests
  simp only [go_sem]
  refine t_call_intro (fa) ?_
  cases h1 : fewR r with
  | false =>
    simp only [go_sem]
    refine t_call_intro (works_den) ?_
    simp only [go_sem]
    simp only [aresult, ares, go_sem]
  | true =>
    by_cases hs : s.size ≤ 3000
    rotate_left
    · have q : (3000 : Int) < (s.size : Int) := by omega
      simp only [q, go_sem]
      refine t_call_intro (works_den) ?_
      simp only [go_sem]
      simp only [aresult, ares, go_sem]
    have q : ¬ (3000 : Int) < (s.size : Int) := by omega
    have d1 := decReq_den s at_ (by omega)
    have d2 := rdecReq_den s at_ (by omega)
    have hf := decReq_fit s.data.toList at_ (by rw [dsize]; omega)
    unfold decReqV at d1 d2
    generalize decReq s.data.toList at_ = X at d1 d2 hf
    obtain ⟨x, i, e⟩ := X
    have sm := rsame_den x x hf.fits
    rw [reqEq_refl] at sm
    simp only [] at d1 d2
    rw [rowr x] at d1 d2 sm
    simp only [q, go_sem]
    refine t_call_intro (d1) ?_
    simp only [go_sem]
    refine t_call_intro (d2) ?_
    simp only [go_sem]
    refine t_call_intro (e1) ?_
    simp only [go_sem]
    refine t_call_intro (e2) ?_
    simp only [beq_self_eq_true, go_sem]
    refine t_call_intro (sm) ?_
    simp only [beq_self_eq_true, go_sem]
    refine t_call_intro (works_den) ?_
    simp only [go_sem]
    simp only [aresult, ares, go_sem]
set_option maxHeartbeats 4000000 in
theorem BatchCodes_den (l : List Req) (s : ByteArray) (at_ : Int) (hl : Reqs.fit l) : PDen Try.prog 6 [.a (.slice 8 (l.map Req.row)), .a (.str s), .a (.int .i64 at_)] (.a (.bool true)) := by
  have fa := few_den l
  have e1 := encReqs_den l (by have := hl.len; omega) hl.all
  have e2 := rencReqs_den l (by have := hl.len; omega) hl.all
  refine den_of_body k_law36_BatchCodes ⟨rfl, Nat.le_of_ble_eq_true rfl, thaw_intro ?_⟩
  unfold c_law36_BatchCodes
  simp only [go_sem]
  refine t_call_intro (fa) ?_
  cases h1 : fewL l with
  | false =>
    simp only [go_sem]
    refine t_call_intro (works_den) ?_
    simp only [go_sem]
    simp only [aresult, ares, go_sem]
  | true =>
    by_cases hs : s.size ≤ 3000
    rotate_left
    · have q : (3000 : Int) < (s.size : Int) := by omega
      simp only [q, go_sem]
      refine t_call_intro (works_den) ?_
      simp only [go_sem]
      simp only [aresult, ares, go_sem]
    have q : ¬ (3000 : Int) < (s.size : Int) := by omega
    have d1 := decReqs_den s at_ (by omega)
    have d2 := rdecReqs_den s at_ (by omega)
    have hf := decReqs_fit s.data.toList at_ (by rw [dsize]; omega)
    have hn := decReqs_len s.data.toList at_
    unfold decReqsV at d1 d2
    generalize decReqs s.data.toList at_ = X at d1 d2 hf hn
    obtain ⟨x, i, e⟩ := X
    simp only [] at d1 d2 hf hn
    have sm := rsamelist_den x x (by omega) fun r hr => (hf r hr).fits
    rw [reqsEq_refl] at sm
    simp only [q, go_sem]
    refine t_call_intro (d1) ?_
    simp only [go_sem]
    refine t_call_intro (d2) ?_
    simp only [go_sem]
    refine t_call_intro (e1) ?_
    simp only [go_sem]
    refine t_call_intro (e2) ?_
    simp only [beq_self_eq_true, go_sem]
    refine t_call_intro (sm) ?_
    simp only [beq_self_eq_true, go_sem]
    refine t_call_intro (works_den) ?_
    simp only [go_sem]
    simp only [aresult, ares, go_sem]
/-! Merging -/
theorem mrow_mem (ls : List (List Req)) (i k : Nat) (r : Req) (h : r ∈ mrow ls i k) : ∃ l ∈ ls, r ∈ l := by
  unfold mrow at h
  obtain ⟨l, hl, hr⟩ := List.mem_filterMap.1 h
  exact ⟨l, List.mem_of_mem_take hl, List.mem_of_getElem? hr⟩
theorem mcol_mem (ls : List (List Req)) (r : Req) : ∀ i, r ∈ mcol ls i → ∃ l ∈ ls, r ∈ l
  | 0, h => by cases h
  | i + 1, h => by
    rcases List.mem_append.1 h with h | h
    · exact mcol_mem ls r i h
    · exact mrow_mem ls i _ r h
theorem merge_mem (ls : List (List Req)) (r : Req) (h : r ∈ mergeR ls) : ∃ l ∈ ls, r ∈ l := mcol_mem ls r _ h
theorem short_of (ls : List (List Req)) (h : shortL ls = true) : ls.length ≤ 20 ∧ ∀ l ∈ ls, l.length ≤ 40 := by
  unfold shortL at h
  simp only [Bool.and_eq_true, decide_eq_true_eq, List.all_eq_true] at h
  exact ⟨h.1, fun l hl => of_decide_eq_true (h.2 l hl)⟩
theorem merge_len (ls : List (List Req)) (h1 : ls.length ≤ 20) (h2 : ∀ l ∈ ls, l.length ≤ 40) : (mergeR ls).length ≤ 800 := by
  have h3 := mcol_len ls (most ls ls.length)
  have h4 := most_le ls 40 h2 ls.length
  have h5 : most ls ls.length * ls.length ≤ 40 * 20 := Nat.mul_le_mul h4 h1
  unfold mergeR; omega
set_option maxHeartbeats 4000000 in
theorem BatchMerges_den (ls : List (List Req)) (m : Int) (hl : ∀ l ∈ ls, Reqs.fit l) : PDen Try.prog 8 [.a (.slice 1 (ls.map lsRow)), .a (.int .i64 m)] (.a (.bool true)) := by
  have fa := short_den ls
  refine den_of_body k_law36_BatchMerges ⟨rfl, Nat.le_of_ble_eq_true rfl, thaw_intro ?_⟩
  unfold c_law36_BatchMerges
  simp only [go_sem]
  refine t_call_intro (fa) ?_
  cases h1 : shortL ls with
  | false =>
    simp only [go_sem]
    refine t_call_intro (works_den) ?_
    simp only [go_sem]
    simp only [aresult, ares, go_sem]
  | true =>
    obtain ⟨g1, g2⟩ := short_of ls h1
    have hM := merge_den ls (by omega) (fun l h => by have := g2 l h; omega) fun l h => (hl l h).blk
    have hR := rmerge_den ls (by omega) (fun l h => by have := g2 l h; omega)
    have hn := merge_len ls g1 g2
    have hb : ∀ r ∈ mergeR ls, r.bulk := fun r hr => let ⟨l, h, hrl⟩ := merge_mem ls r hr; (hl l h).blk r hrl
    have hf : ∀ r ∈ mergeR ls, r.fits := fun r hr => let ⟨l, h, hrl⟩ := merge_mem ls r hr; ((hl l h).all r hrl).fits
    generalize mergeR ls = L at hM hR hn hb hf
    have hC := cut_den L m (by omega) hb
    have hD := rcut_den L m
    have s1 := rsamelist_den L L (by omega) hf
    generalize hc : cutN m L.length = n at hC hD
    have s2 := rsamelist_den (L.take n) (L.take n) (by have := List.length_take_le n L; have : (L.take n).length ≤ L.length := by rw [List.length_take]; omega
                                                       omega) fun r hr => hf r (List.mem_of_mem_take hr)
    have s3 := rsamelist_den (L.drop n) (L.drop n) (by have : (L.drop n).length ≤ L.length := by rw [List.length_drop]; omega
                                                       omega) fun r hr => hf r (List.mem_of_mem_drop hr)
    rw [reqsEq_refl] at s1 s2 s3
    simp only [go_sem]
    refine t_call_intro (hM) ?_
    simp only [go_sem]
    refine t_call_intro (hC) ?_
    simp only [go_sem]
    refine t_call_intro (hR) ?_
    simp only [go_sem]
    refine t_call_intro (hD) ?_
    simp only [go_sem]
    refine t_call_intro (hR) ?_
    simp only [go_sem]
    refine t_call_intro (s1) ?_
    simp only [go_sem]
    refine t_call_intro (s2) ?_
    simp only [go_sem]
    refine t_call_intro (s3) ?_
    simp only [go_sem]
    refine t_call_intro (works_den) ?_
    simp only [go_sem]
    simp only [aresult, ares, go_sem]
theorem mcol_one (l : List Req) : ∀ i, i ≤ l.length → mcol [l] i = l.take i
  | 0, _ => by simp [mcol]
  | i + 1, h => by
    have hi : i < l.length := by omega
    rw [mcol, mcol_one l i (by omega), List.take_succ_eq_append_getElem hi]
    simp [mrow, List.getElem?_eq_getElem hi]
theorem merge_one (l : List Req) : mergeR [l] = l := by
  have : most [l] [l].length = l.length := by simp [most]
  unfold mergeR
  rw [this, mcol_one l _ (Nat.le_refl _), List.take_length]
set_option maxHeartbeats 4000000 in
theorem BatchCuts_den (l : List Req) (m : Int) (hl : Reqs.fit l) : PDen Try.prog 9 [.a (.slice 8 (l.map Req.row)), .a (.int .i64 m)] (.a (.bool true)) := by
  by_cases h1 : l.length ≤ 100
  rotate_left
  · have q : (100 : Int) < (l.length : Int) := by omega
    refine den_of_body k_law36_BatchCuts ⟨rfl, Nat.le_of_ble_eq_true rfl, thaw_intro ?_⟩
    unfold c_law36_BatchCuts
    simp only [q, go_sem]
    refine t_call_intro (works_den) ?_
    simp only [go_sem]
    simp only [aresult, ares, go_sem]
  have q : ¬ (100 : Int) < (l.length : Int) := by omega
  have hC := cut_den l m (by omega) hl.blk
  have s1 := rsamelist_den l l (by omega) fun r hr => (hl.all r hr).fits
  rw [reqsEq_refl] at s1
  have hM := merge_den [l] (by simp) (by simpa using (by omega : l.length ≤ 1000)) (by simpa using hl.blk)
  rw [merge_one] at hM
  have ew : (if m > 0 then (if (l.length : Int) < m then (l.length : Int) else m) else 0) = (cutN m l.length : Int) := by
    unfold cutN
    split <;> (try split) <;> omega
  have hcl := cutN_le m l.length
  generalize cutN m l.length = n at hC ew hcl
  have el : ((l.take n).map Req.row).length = n := by rw [List.length_map, List.length_take]; omega
  have el2 : ((l.drop n).map Req.row).length ≤ l.length := by rw [List.length_map, List.length_drop]; omega
  have ej : (l.take n).map Req.row ++ (l.drop n).map Req.row = l.map Req.row := by rw [← List.map_append, List.take_append_drop]
  refine den_of_body k_law36_BatchCuts ⟨rfl, Nat.le_of_ble_eq_true rfl, thaw_intro ?_⟩
  unfold c_law36_BatchCuts
  simp only [q, go_sem]
  refine t_call_intro (hC) ?_
  by_cases hm : 0 < m
  · have ew : (if (l.length : Int) < m then (l.length : Int) else m) = (n : Int) := by rw [← ew, if_pos hm]
    simp only [hm, ew, go_sem]
    refine t_gate_intro (by first | omega | (simp; omega)) ?_
    simp only [go_sem]
    refine t_gate_intro (by first | omega | (simp; omega)) ?_
    simp only [ej, el, beq_self_eq_true, go_sem]
    refine t_call_intro (s1) ?_
    simp only [go_sem]
    refine t_call_intro (hM) ?_
    simp only [go_sem]
    refine t_call_intro (s1) ?_
    simp only [go_sem]
    refine t_call_intro (works_den) ?_
    simp only [go_sem]
    simp only [aresult, ares, go_sem]
  · have ew : (0 : Int) = (n : Int) := by rw [← ew, if_neg hm]
    have n0 : n = 0 := by omega
    subst n0
    have c00 : (((0 : Nat) : Int) == 0) = true := rfl
    simp only [hm, go_sem]
    refine t_gate_intro (by first | omega | (simp; omega)) ?_
    simp only [go_sem]
    refine t_gate_intro (by first | omega | (simp; omega)) ?_
    simp only [ej, el, c00, go_sem]
    refine t_call_intro (s1) ?_
    simp only [go_sem]
    refine t_call_intro (hM) ?_
    simp only [go_sem]
    refine t_call_intro (s1) ?_
    simp only [go_sem]
    refine t_call_intro (works_den) ?_
    simp only [go_sem]
    simp only [aresult, ares, go_sem]
end Go.Proofs.Ytalebiebdmidoaa
