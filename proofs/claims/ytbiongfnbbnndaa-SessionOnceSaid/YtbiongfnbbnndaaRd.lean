/- Chapter 37: the reference's Record. -/
import Derived.Test.YtbiongfnbbnndaaRc
set_option linter.unusedSimpArgs false
set_option linter.unusedVariables false
namespace Go.Proofs.Ytbiongfnbbnndaa
open Go Ab Go.RowKit
set_option maxRecDepth 100000
attribute [local irreducible] awp aops aop asoft aeff aloop acall acallI acallT
attribute [local go_sem] Vl.row sRow fpRow Req.row Rpl.row Ses.row

theorem cmp_hi (a b : Int) : ¬ cmpC a b < 0 ↔ b ≤ a := by
  rw [cmpC_lt]; omega
theorem filt_take (c : Int) (l : List Ses) (k : Nat) (h : k < l.length) : (l.take (k + 1)).filter (fun s => decide (c < s.cl)) = (l.take k).filter (fun s => decide (c < s.cl)) ++ (if c < l[k].cl then [l[k]] else []) := by
  rw [List.take_succ_eq_append_getElem h, List.filter_append]
  by_cases h1 : c < l[k].cl
  · rw [if_pos h1]; simp [h1]
  · rw [if_neg h1]; simp [h1]
/-- Those behind a client's place. -/
theorem filt_hi (c : Int) (l : List Ses) (ha : AscC l) : l.filter (fun s => decide (c < s.cl)) = if foundC l (loC c l) c = true then l.drop (loC c l + 1) else l.drop (loC c l) := by
  obtain ⟨h0, h1, h2⟩ := loC_spec c l ha
  have h3 := loC_found c l ha
  generalize loC c l = p at h0 h1 h2 h3 ⊢
  have ht : (l.take p).filter (fun s => decide (c < s.cl)) = [] := by
    rw [List.filter_eq_nil_iff]
    intro s hs
    obtain ⟨i, hi, rfl⟩ := List.mem_iff_getElem.1 hs
    rw [List.length_take] at hi
    have := (cmpC_lt _ _).1 (h1 i (by omega) (by omega))
    rw [List.getElem_take]
    simp only [decide_eq_true_eq]; omega
  have hspl : l.filter (fun s => decide (c < s.cl)) = (l.drop p).filter (fun s => decide (c < s.cl)) := by
    have := List.filter_append (p := fun s : Ses => decide (c < s.cl)) (l.take p) (l.drop p)
    rw [List.take_append_drop, ht, List.nil_append] at this
    exact this
  rw [hspl]
  rcases h3 with ⟨hf, hs⟩ | ⟨hf, hl, hs⟩
  · rw [hf, if_neg (by simp), List.filter_eq_self]
    intro s hm
    obtain ⟨i, hi, rfl⟩ := List.mem_iff_getElem.1 hm
    rw [List.length_drop] at hi
    rw [List.getElem_drop]
    have h4 := (cmp_hi _ _).1 (h2 (p + i) (by omega) (by omega))
    have h5 : l[p + i].cl ≠ c := fun e => by
      unfold sOf at hs
      rw [List.find?_eq_none] at hs
      have := hs l[p + i] (List.getElem_mem (by omega))
      rw [e] at this; simp at this
    simp only [decide_eq_true_eq]; omega
  · rw [hf, if_pos rfl]
    have hc := (sOf_mem hs).2
    rw [List.drop_eq_getElem_cons hl, List.filter_cons_of_neg (by simp only [decide_eq_true_eq]; omega), List.filter_eq_self]
    intro s hm
    obtain ⟨i, hi, rfl⟩ := List.mem_iff_getElem.1 hm
    rw [List.length_drop] at hi
    rw [List.getElem_drop]
    have := (List.pairwise_iff_getElem.1 ha) p (p + 1 + i) hl (by omega) (by omega)
    simp only [decide_eq_true_eq]; omega
def newS (l : List Ses) (r : Rpl) : Ses := ⟨r.cl, r.sq + 1, last8 ((fndC l r.cl).rs ++ [r])⟩
theorem recL_eq (l : List Ses) (r : Rpl) (ha : AscC l) : recL l r = l.take (loC r.cl l) ++ [newS l r] ++ l.filter (fun s => decide (r.cl < s.cl)) := by
  rw [filt_hi r.cl l ha]
  unfold recL newS fndC
  rcases loC_found r.cl l ha with ⟨hf, hs⟩ | ⟨hf, hl, hs⟩
  · rw [hf, hs, if_neg (by simp), if_neg (by simp)]
    rfl
  · rw [hf, hs, if_pos rfl, if_pos rfl]
    have egd : l.getD (loC r.cl l) ⟨0, 0, []⟩ = l[loC r.cl l] := by simp [List.getD_eq_getElem?_getD, hl]
    rw [egd, List.set_eq_take_append_cons_drop, if_pos hl, List.append_assoc]; rfl
theorem fnd_len (l : List Ses) (h : sessV l = true) (c : Int) : (fndC l c).rs.length ≤ 8 := by
  unfold fndC
  cases hs : sOf l c with
  | none => simp
  | some s =>
    have h2 := (sessV_asc h).2 s (sOf_mem hs).1
    unfold sesV at h2
    rw [Bool.and_eq_true] at h2
    have := (sHead_of h2.1).l8
    simp only; omega
set_option maxHeartbeats 8000000 in
theorem rrecord_bad (l : List Ses) (hb : SesBulk l) (r : Rpl) (hr : VlsFit r.out) (e : Int) (he : e ≠ 0) (h : recP l r = ([], e)) :
    PDen Try.prog 21 [.a (.slice 3 (l.map Ses.row)), .agg r.row] (.tup [.a .nils, .a (.int .i64 e)]) := by
  have hv := rsessV_den l hb.fit
  have ho := routV_den r.st r.cd r.out hr
  unfold recP recOk at h
  rw [rpl_rw]
  cases h0 : sessV l with
  | false =>
    rw [h0] at h hv
    have h := congrArg Prod.snd h
    simp at h; subst h
    refine den_of_body k_ref37_Record ⟨rfl, Nat.le_of_ble_eq_true rfl, thaw_intro ?_⟩
    unfold c_ref37_Record
    simp only [go_sem]
    refine t_call_intro (hv) ?_
    simp only [go_sem]
    simp only [aresult, ares, go_sem]
  | true =>
  rw [h0] at h hv
  by_cases h1 : 1 ≤ r.cl
  rotate_left
  · have h := congrArg Prod.snd h
    simp [h1] at h; subst h
    have g1 : r.cl < 1 := by omega
    refine den_of_body k_ref37_Record ⟨rfl, Nat.le_of_ble_eq_true rfl, thaw_intro ?_⟩
    unfold c_ref37_Record
    simp only [go_sem]
    refine t_call_intro (hv) ?_
    simp only [g1, go_sem]
    simp only [aresult, ares, go_sem]
  have g1 : ¬ r.cl < 1 := by omega
  by_cases h2 : r.cl ≤ 32
  rotate_left
  · have h := congrArg Prod.snd h
    simp [h2] at h; subst h
    have g2 : 32 < r.cl := by omega
    refine den_of_body k_ref37_Record ⟨rfl, Nat.le_of_ble_eq_true rfl, thaw_intro ?_⟩
    unfold c_ref37_Record
    simp only [go_sem]
    refine t_call_intro (hv) ?_
    simp only [g1, g2, go_sem]
    simp only [aresult, ares, go_sem]
  have g2 : ¬ 32 < r.cl := by omega
  cases h3 : outV r.st r.cd r.out with
  | false =>
    rw [h3] at h ho
    have h := congrArg Prod.snd h
    simp at h; subst h
    refine den_of_body k_ref37_Record ⟨rfl, Nat.le_of_ble_eq_true rfl, thaw_intro ?_⟩
    unfold c_ref37_Record
    simp only [go_sem]
    refine t_call_intro (hv) ?_
    simp only [g1, g2, go_sem]
    refine t_call_intro (ho) ?_
    simp only [go_sem]
    simp only [aresult, ares, go_sem]
  | true =>
  rw [h3] at h ho
  have hn := rfindC_den l r.cl hb.fit.len
  simp only [Bool.true_and, h1, h2, decide_true, if_true] at h
  have hnx := nextI_fnd l r.cl
  rw [ses_rw, hnx] at hn
  by_cases h4 : r.sq = nextI l r.cl
  rotate_left
  · have h := congrArg Prod.snd h
    simp [h4] at h; subst h
    have g4 : (r.sq != nextI l r.cl) = true := by simpa using h4
    refine den_of_body k_ref37_Record ⟨rfl, Nat.le_of_ble_eq_true rfl, thaw_intro ?_⟩
    unfold c_ref37_Record
    simp only [go_sem]
    refine t_call_intro (hv) ?_
    simp only [g1, g2, go_sem]
    refine t_call_intro (ho) ?_
    simp only [go_sem]
    refine t_call_intro (hn) ?_
    simp only [g4, go_sem]
    simp only [aresult, ares, go_sem]
  have g4 : (r.sq != nextI l r.cl) = false := by simpa using h4
  rw [if_neg (by simp [h4])] at h
  by_cases h5 : r.sq = 1099511627776
  rotate_left
  · rw [if_neg h5] at h
    exact absurd (congrArg Prod.snd h).symm he
  have g5 : (r.sq == 1099511627776) = true := by simpa using h5
  have h := congrArg Prod.snd h
  simp [h5] at h; subst h
  refine den_of_body k_ref37_Record ⟨rfl, Nat.le_of_ble_eq_true rfl, thaw_intro ?_⟩
  unfold c_ref37_Record
  simp only [go_sem]
  refine t_call_intro (hv) ?_
  simp only [g1, g2, go_sem]
  refine t_call_intro (ho) ?_
  simp only [go_sem]
  refine t_call_intro (hn) ?_
  simp only [g4, g5, go_sem]
  simp only [aresult, ares, go_sem]
end Go.Proofs.Ytbiongfnbbnndaa
