/- Chapter 22: Apply of the program and of the reference make the same; the law MvstoreApplies. -/
import Derived.Test.YtlfebjehmabejaaMr
import Derived.Test.YtlfebjehmabejaaMfm
set_option linter.unusedSimpArgs false
set_option linter.unusedVariables false
namespace Go.Proofs.Ytlfebjehmabejaa
open Go Ab
set_option maxRecDepth 100000
attribute [local irreducible] awp aops aop asoft aeff aloop acall acallI acallT
attribute [local go_sem] Vl.row Ver.row Row.row Store.row Pr.row

theorem insK_mem (k x : ByteArray) : ∀ l : List ByteArray, x ∈ insK k l ↔ x = k ∨ x ∈ l
  | [] => by simp [insK]
  | y :: ys => by
    have ih := insK_mem k x ys
    unfold insK
    split
    · rw [List.mem_cons, ih, List.mem_cons]
      constructor
      · rintro (h | h | h)
        · exact .inr (.inl h)
        · exact .inl h
        · exact .inr (.inr h)
      · rintro (h | h | h)
        · exact .inr (.inl h)
        · exact .inl h
        · exact .inr (.inr h)
    · split
      · rename_i h
        constructor
        · exact .inr
        · rintro (h2 | h2)
          · rw [h2, ← h]; simp
          · exact h2
      · rw [List.mem_cons]
def KSrt (l : List ByteArray) : Prop := l.Pairwise bl
theorem insK_srt (k : ByteArray) : ∀ l : List ByteArray, KSrt l → KSrt (insK k l)
  | [], _ => List.pairwise_singleton ..
  | y :: ys, h => by
    have h' := List.pairwise_cons.1 h
    unfold insK
    split
    · rename_i hy
      refine List.pairwise_cons.2 ⟨fun x hx => ?_, insK_srt k ys h'.2⟩
      rcases (insK_mem k x ys).1 hx with rfl | hx
      · exact hy
      · exact h'.1 x hx
    · rename_i hy
      split
      · exact h
      · rename_i hne
        have hk : bl k y := Classical.byContradiction fun q => hne (bl_tot hy q)
        refine List.pairwise_cons.2 ⟨fun x hx => ?_, h⟩
        rcases List.mem_cons.1 hx with rfl | hx
        · exact hk
        · exact hk.tr (h'.1 x hx)
theorem foldK_mem (x : ByteArray) : ∀ (ws : List Pr) (l : List ByteArray), x ∈ ws.foldl (fun l p => insK p.key l) l ↔ (∃ p ∈ ws, p.key = x) ∨ x ∈ l
  | [], l => by simp
  | p :: ws, l => by
    rw [List.foldl_cons, foldK_mem x ws, insK_mem]
    constructor
    · rintro (⟨q, hq, h⟩ | h | h)
      · exact .inl ⟨q, by simp [hq], h⟩
      · exact .inl ⟨p, by simp, h.symm⟩
      · exact .inr h
    · rintro (⟨q, hq, h⟩ | h)
      · rcases List.mem_cons.1 hq with rfl | hq
        · exact .inr (.inl h.symm)
        · exact .inl ⟨q, hq, h⟩
      · exact .inr (.inr h)
theorem foldK_srt : ∀ (ws : List Pr) (l : List ByteArray), KSrt l → KSrt (ws.foldl (fun l p => insK p.key l) l)
  | [], _, h => h
  | p :: ws, l, h => foldK_srt ws _ (insK_srt p.key l h)
theorem keysAt_all (ws : List Pr) (l : List ByteArray) : keysAt ws l ws.length = ws.foldl (fun l p => insK p.key l) l := by unfold keysAt; rw [List.take_length]
theorem vlEq_comm (a b : Vl) : vlEq a b = vlEq b a := by
  rw [Bool.eq_iff_iff, vlEq_iff, vlEq_iff]
  exact eq_comm
theorem filter_key (key : ByteArray) (f : Pr → Bool) : ∀ ws : List Pr, Srt ws → ws.filter (fun p => (p.key.toList == key.toList) && f p) = match fnd ws key with | none => [] | some p => if f p = true then [p] else []
  | [], _ => rfl
  | p :: ws, hs => by
    rw [srt_cons] at hs
    have ih := filter_key key f ws hs.2
    simp only [fnd]
    by_cases hk : p.key = key
    · rw [if_pos hk]
      have e0 : fnd ws key = none := by rw [← hk]; exact fnd_lb hs.1
      rw [e0] at ih
      have hk2 : (p.key.toList == key.toList) = true := by rw [hk]; simp
      by_cases hf : f p = true
      · rw [List.filter_cons_of_pos (by rw [hk2, hf]; rfl), ih]
        simp only [hf, if_true]
      · rw [List.filter_cons_of_neg (by rw [hk2]; simpa using hf), ih]
        simp only [hf, if_false]
        rfl
    · rw [if_neg hk]
      have hk2 : (p.key.toList == key.toList) = false := by
        rw [beq_eq_false_iff_ne]
        exact fun q => hk (ba_ext q)
      rw [List.filter_cons_of_neg (by rw [hk2]; simp), ih]
theorem refRow_key (at_ last : Int) (ws : List Pr) (rows : List Row) (key : ByteArray) : (refRow at_ last ws rows key).key = key := fndR_key rows key
theorem refVs_all (at_ last : Int) (ws : List Pr) (rows : List Row) (key : ByteArray) (hs : Srt ws) : refVs at_ last (fndR rows key) ws ws.length = (fndR rows key).vs ++ (match fnd ws key with | none => [] | some p => if vlEq p.v (vlAt (fndR rows key).vs last) = true then [] else [⟨at_, p.v⟩]) := by
  unfold refVs
  rw [List.take_length]
  have h := filter_key (fndR rows key).key (fun p => !vlEq p.v (vlAt (fndR rows key).vs last)) ws hs
  have e : ws.filter (wOk last (fndR rows key)) = ws.filter (fun p => (p.key.toList == (fndR rows key).key.toList) && !vlEq p.v (vlAt (fndR rows key).vs last)) := rfl
  rw [e, h, fndR_key]
  congr 1
  cases fnd ws key with
  | none => rfl
  | some p =>
    simp only
    cases vlEq p.v (vlAt (fndR rows key).vs last) <;> rfl
theorem ref_look (s : Store) (at_ : Int) (ws : List Pr) (hv : storeV s = true) (hw : writesGo none ws = true) (key : ByteArray) :
    rowOf (putAll at_ s.la ws s.rows) key = if (refRow at_ s.la ws s.rows key).vs.isEmpty = true then none else some (refRow at_ s.la ws s.rows key) := by
  have hso := storeV_sorted s hv
  have hws := (writes_iff0 ws).1 hw
  rw [putAll_row at_ s.la key ws s.rows hso.1 hws.1]
  have e : (refRow at_ s.la ws s.rows key).vs = refVs at_ s.la (fndR s.rows key) ws ws.length := rfl
  have e2 : refRow at_ s.la ws s.rows key = ⟨key, refVs at_ s.la (fndR s.rows key) ws ws.length⟩ := by unfold refRow; rw [fndR_key]
  rw [e, e2, refVs_all at_ s.la ws s.rows key hws.1]
  unfold fndR
  cases hr : rowOf s.rows key with
  | none =>
    cases hf : fnd ws key with
    | none => rfl
    | some p =>
      have hp := fnd_mem hf
      have hvp := (hws.2 p hp.1).2
      show nw at_ p = _
      have ea : vlAt [] s.la = vl0 := rfl
      simp only [List.nil_append]
      rw [ea]
      unfold nw
      by_cases hk : p.v.kind = 0
      · rw [if_pos hk, if_pos ((vlEq_iff _ _).2 (vl_zero _ hvp hk))]; rfl
      · have hne : vlEq p.v vl0 = false := by
          rw [Bool.eq_false_iff]
          exact fun q => hk (by rw [(vlEq_iff _ _).1 q]; rfl)
        rw [if_neg hk]
        simp only [hne, Bool.false_eq_true, if_false]
        rw [← hp.2]; rfl
  | some r =>
    have hm := rowOf_mem hr
    have hne : r.vs ≠ [] := fun q => by
      have := (hso.2 r hm.1).2
      rw [q] at this
      cases this
    have er : (⟨key, r.vs⟩ : Row) = r := by rw [← hm.2]
    cases hf : fnd ws key with
    | none =>
      simp only [List.append_nil]
      rw [if_neg (by simpa using hne), er]
    | some p =>
      show some (⟨r.key, vlUp r.vs at_ s.la p.v⟩ : Row) = _
      simp only
      unfold vlUp
      rw [vlEq_comm p.v]
      cases hq : vlEq (vlAt r.vs s.la) p.v with
      | true => simp only [if_true, List.append_nil]; rw [if_neg (by simpa using hne), hm.2]
      | false => simp only [Bool.false_eq_true, if_false]; rw [if_neg (by simp), hm.2]
theorem ref_put (s : Store) (at_ : Int) (ws : List Pr) (hv : storeV s = true) (hw : writesGo none ws = true) :
    refOut at_ s.la ws s.rows (keysAt ws (s.rows.map Row.key) ws.length) = putAll at_ s.la ws s.rows := by
  have hso := storeV_sorted s hv
  have hks : KSrt (keysAt ws (s.rows.map Row.key) ws.length) := by
    rw [keysAt_all]
    exact foldK_srt ws _ (List.pairwise_map.2 hso.1)
  have hsp := putAll_sorted at_ s.la ws s.rows hso.1
  refine rows_det _ _ ?_ hsp fun r => ⟨fun hr => ?_, fun hr => ?_⟩
  · unfold refOut
    refine List.Pairwise.filter _ (List.pairwise_map.2 (hks.imp fun {a b} h => ?_))
    show Op.bytesLess (refRow at_ s.la ws s.rows a).key.toList (refRow at_ s.la ws s.rows b).key.toList = true
    rw [refRow_key, refRow_key]
    exact h
  · unfold refOut at hr
    rw [List.mem_filter, List.mem_map] at hr
    obtain ⟨⟨key, _, rfl⟩, hne⟩ := hr
    have h := ref_look s at_ ws hv hw key
    rw [if_neg (by simpa using hne)] at h
    exact (rowOf_mem h).1
  · have h0 := rowOf_some hsp hr
    have h1 := h0
    rw [ref_look s at_ ws hv hw r.key] at h0
    split at h0
    · cases h0
    · rename_i hne
      injection h0 with h0
      unfold refOut
      rw [List.mem_filter, List.mem_map]
      refine ⟨⟨r.key, ?_, h0⟩, by rw [← h0]; simpa using hne⟩
      rw [keysAt_all, foldK_mem]
      rw [putAll_row at_ s.la r.key ws s.rows hso.1 ((writes_iff0 ws).1 hw).1] at h1
      cases hf : fnd ws r.key with
      | some p => exact .inl ⟨p, fnd_mem hf⟩
      | none =>
        rw [hf] at h1
        exact .inr (List.mem_map.2 ⟨r, (rowOf_mem h1).1, rfl⟩)

/-! Where Apply fails -/
theorem mzero_tup (e : Int) : VLe (.tup [.agg [.int .i64 0, .int .i64 0, .nils], .a (.int .i64 e)]) (.tup [.agg zeroS.row, .a (.int .i64 e)]) := VLe.tup ⟨zeroS_le, VLe.refl _, trivial⟩
set_option maxHeartbeats 2000000 in
theorem apply_bad1 (s : Store) (hs : s.fit) (at_ : Int) (ws : List Pr) (hwl : ws.length ≤ 1000000) (hwf : ∀ p ∈ ws, p.fit) (h : (storeV s && writesGo none ws) = false) :
    PDen Try.prog 9 [.agg s.row, .a (.int .i64 at_), .a (.slice 4 (ws.map Pr.row))] (.tup [.agg zeroS.row, .a (.int .i64 1)]) := by
  refine PDen.le ?_ (mzero_tup 1)
  have hsv := storeV_den s hs
  have hwd := writes_den ws (by omega) hwf
  refine den_of_body k_mvstore_Apply ⟨rfl, Nat.le_of_ble_eq_true rfl, thaw_intro ?_⟩
  unfold c_mvstore_Apply
  simp only [go_sem]
  refine t_call_intro (hsv) ?_
  cases h1 : storeV s with
  | false =>
    simp only [go_sem]
    simp only [aresult, ares, go_sem]
  | true =>
    rw [h1] at h
    have h : writesGo none ws = false := h
    rw [h] at hwd
    simp only [go_sem]
    refine t_call_intro (hwd) ?_
    simp only [go_sem]
    simp only [aresult, ares, go_sem]
set_option maxHeartbeats 2000000 in
theorem apply_bad2 (s : Store) (hs : s.fit) (at_ : Int) (ws : List Pr) (hwl : ws.length ≤ 1000000) (hwf : ∀ p ∈ ws, p.fit) (hv : storeV s = true) (hw : writesGo none ws = true) (ha : at_ ≤ s.la ∨ 1099511627776 < at_) :
    PDen Try.prog 9 [.agg s.row, .a (.int .i64 at_), .a (.slice 4 (ws.map Pr.row))] (.tup [.agg zeroS.row, .a (.int .i64 16)]) := by
  refine PDen.le ?_ (mzero_tup 16)
  have hsv := storeV_den s hs
  have hwd := writes_den ws (by omega) hwf
  rw [hv] at hsv
  rw [hw] at hwd
  refine den_of_body k_mvstore_Apply ⟨rfl, Nat.le_of_ble_eq_true rfl, thaw_intro ?_⟩
  unfold c_mvstore_Apply
  simp only [go_sem]
  refine t_call_intro (hsv) ?_
  simp only [go_sem]
  refine t_call_intro (hwd) ?_
  by_cases h1 : at_ ≤ s.la
  · simp only [h1, go_sem]
    simp only [aresult, ares, go_sem]
  · have h2 : 1099511627776 < at_ := by omega
    simp only [h1, h2, go_sem]
    simp only [aresult, ares, go_sem]
set_option maxHeartbeats 2000000 in
theorem rapply_bad1 (s : Store) (hs : s.fit) (at_ : Int) (ws : List Pr) (hwl : ws.length ≤ 1000000) (hwf : ∀ p ∈ ws, p.fit) (h : (storeV s && writesGo none ws) = false) :
    PDen Try.prog 10 [.agg s.row, .a (.int .i64 at_), .a (.slice 4 (ws.map Pr.row))] (.tup [.agg zeroS.row, .a (.int .i64 1)]) := by
  refine PDen.le ?_ (mzero_tup 1)
  have hsv := rstoreV_den s hs
  have hwd := rwrites_den ws (by omega) hwf
  refine den_of_body k_ref22_Apply_s ⟨rfl, Nat.le_of_ble_eq_true rfl, thaw_intro ?_⟩
  unfold c_ref22_Apply_s
  simp only [go_sem]
  refine t_call_intro (hsv) ?_
  cases h1 : storeV s with
  | false =>
    simp only [go_sem]
    simp only [aresult, ares, go_sem]
  | true =>
    rw [h1] at h
    have h : writesGo none ws = false := h
    rw [h] at hwd
    simp only [go_sem]
    refine t_call_intro (hwd) ?_
    simp only [go_sem]
    simp only [aresult, ares, go_sem]
set_option maxHeartbeats 2000000 in
theorem rapply_bad2 (s : Store) (hs : s.fit) (at_ : Int) (ws : List Pr) (hwl : ws.length ≤ 1000000) (hwf : ∀ p ∈ ws, p.fit) (hv : storeV s = true) (hw : writesGo none ws = true) (ha : at_ ≤ s.la ∨ 1099511627776 < at_) :
    PDen Try.prog 10 [.agg s.row, .a (.int .i64 at_), .a (.slice 4 (ws.map Pr.row))] (.tup [.agg zeroS.row, .a (.int .i64 16)]) := by
  refine PDen.le ?_ (mzero_tup 16)
  have hsv := rstoreV_den s hs
  have hwd := rwrites_den ws (by omega) hwf
  rw [hv] at hsv
  rw [hw] at hwd
  refine den_of_body k_ref22_Apply_s ⟨rfl, Nat.le_of_ble_eq_true rfl, thaw_intro ?_⟩
  unfold c_ref22_Apply_s
  simp only [go_sem]
  refine t_call_intro (hsv) ?_
  simp only [go_sem]
  refine t_call_intro (hwd) ?_
  by_cases h1 : at_ ≤ s.la
  · simp only [h1, go_sem]
    simp only [aresult, ares, go_sem]
  · have h2 : 1099511627776 < at_ := by omega
    simp only [h1, h2, go_sem]
    simp only [aresult, ares, go_sem]
def apS (s : Store) (at_ : Int) (ws : List Pr) : Store := if (storeV s && writesGo none ws) = true ∧ s.la < at_ ∧ at_ ≤ 1099511627776 then ⟨s.fl, at_, putAll at_ s.la ws s.rows⟩ else zeroS
def apE (s : Store) (at_ : Int) (ws : List Pr) : Int := if (storeV s && writesGo none ws) = false then 1 else if s.la < at_ ∧ at_ ≤ 1099511627776 then 0 else 16
theorem apply_both (s : Store) (hs : s.fit) (hsm : s.small) (at_ : Int) (ws : List Pr) (hwf : ∀ p ∈ ws, p.fit) (M : Nat) (hM : ∀ r ∈ s.rows, r.vs.length ≤ M) (hb : s.rows.length + ws.length + 1 ≤ 1000000) (hb2 : M + ws.length + 1 ≤ 1000000) :
    PDen Try.prog 9 [.agg s.row, .a (.int .i64 at_), .a (.slice 4 (ws.map Pr.row))] (.tup [.agg (apS s at_ ws).row, .a (.int .i64 (apE s at_ ws))]) ∧
    PDen Try.prog 10 [.agg s.row, .a (.int .i64 at_), .a (.slice 4 (ws.map Pr.row))] (.tup [.agg (apS s at_ ws).row, .a (.int .i64 (apE s at_ ws))]) := by
  have hwl : ws.length ≤ 1000000 := by omega
  cases h : (storeV s && writesGo none ws) with
  | false =>
    have e1 : apS s at_ ws = zeroS := if_neg (by rw [h]; simp)
    have e2 : apE s at_ ws = 1 := if_pos h
    rw [e1, e2]
    exact ⟨apply_bad1 s hs at_ ws hwl hwf h, rapply_bad1 s hs at_ ws hwl hwf h⟩
  | true =>
    have h' := h
    rw [Bool.and_eq_true] at h'
    by_cases ha : s.la < at_ ∧ at_ ≤ 1099511627776
    · have e1 : apS s at_ ws = ⟨s.fl, at_, putAll at_ s.la ws s.rows⟩ := if_pos ⟨h, ha⟩
      have e2 : apE s at_ ws = 0 := by
        unfold apE
        rw [if_neg (by rw [h]; simp), if_pos ha]
      rw [e1, e2]
      have b1 : (s.rows.length + ws.length + 1) * 40 ≤ 140737488351232 := Nat.le_trans (Nat.mul_le_mul_right 40 hb) (by decide)
      have b2 : (M + ws.length + 1) * 40 ≤ 140737488351232 := Nat.le_trans (Nat.mul_le_mul_right 40 hb2) (by decide)
      have g1 := apply_good s hs hsm at_ ws hwf h'.1 h'.2 ha M hM b1 b2
      have g2 := rapply_good s hs hsm at_ ws hwf h'.1 h'.2 ha M hM (Nat.le_trans hb (by decide)) (Nat.le_trans hb2 (by decide))
      rw [ref_put s at_ ws h'.1 h'.2] at g2
      exact ⟨g1, g2⟩
    · have e1 : apS s at_ ws = zeroS := if_neg (fun q => ha q.2)
      have e2 : apE s at_ ws = 16 := by
        unfold apE
        rw [if_neg (by rw [h]; simp), if_neg ha]
      rw [e1, e2]
      have ha' : at_ ≤ s.la ∨ 1099511627776 < at_ := by omega
      exact ⟨apply_bad2 s hs at_ ws hwl hwf h'.1 h'.2 ha', rapply_bad2 s hs at_ ws hwl hwf h'.1 h'.2 ha'⟩
theorem apS_small (s : Store) (at_ : Int) (ws : List Pr) (M : Nat) (hM : ∀ r ∈ s.rows, r.vs.length ≤ M) (hb : s.rows.length + ws.length + 1 ≤ 1000000) (hb2 : M + ws.length + 1 ≤ 1000000) :
    (apS s at_ ws).rows.length ≤ 1000000 ∧ ∀ r ∈ (apS s at_ ws).rows, r.vs.length ≤ 1000000 := by
  unfold apS
  split
  · have h1 := putAll_len at_ s.la ws s.rows
    have h2 := putAll_vers (at_ := at_) (last := s.la) (ws := ws) hM
    refine ⟨by show (putAll at_ s.la ws s.rows).length ≤ _; omega, fun r hr => ?_⟩
    have := h2 r hr
    omega
  · exact ⟨by simp [zeroS], fun r hr => by simp [zeroS] at hr⟩
set_option maxHeartbeats 2000000 in
theorem mvApplies_den (s : Store) (hs : s.fit) (hm : s.small) (at_ : Int) (ws : List Pr) (hl : ws.length * 40 ≤ 140737488351232) (hf : ∀ p ∈ ws, p.fit) :
    PDen Try.prog 3 [.agg s.row, .a (.int .i64 at_), .a (.slice 4 (ws.map Pr.row))] (.a (.bool true)) := by
  have d1 := few_den s hm 12
  have d2 := fewP_den ws hl 20
  have erw : s.row = [.int .i64 s.fl, .int .i64 s.la, .slice 2 (s.rows.map Row.row)] := rfl
  rw [erw] at d1 ⊢
  refine den_of_body k_law22_MvstoreApplies ⟨rfl, Nat.le_of_ble_eq_true rfl, thaw_intro ?_⟩
  unfold c_law22_MvstoreApplies
  simp only [go_sem]
  refine t_call_intro (d1) ?_
  cases h1 : fewS s 12 with
  | false =>
    simp only [go_sem]
    refine t_call_intro (lives_den) ?_
    simp only [go_sem]
    simp only [aresult, ares, go_sem]
  | true =>
    simp only [go_sem]
    refine t_call_intro (d2) ?_
    cases h2 : fewP ws 20 with
    | false =>
      simp only [go_sem]
      refine t_call_intro (lives_den) ?_
      simp only [go_sem]
      simp only [aresult, ares, go_sem]
    | true =>
      have h1' := h1
      unfold fewS at h1'
      rw [Bool.and_eq_true] at h1'
      have h2' := h2
      unfold fewP at h2'
      rw [Bool.and_eq_true] at h2'
      have r1 := of_decide_eq_true h1'.1
      have r2 := of_decide_eq_true h2'.1
      have hM : ∀ r ∈ s.rows, r.vs.length ≤ 12 := fun r hr => by
        have := List.all_eq_true.1 h1'.2 r hr
        unfold fewRow at this
        rw [Bool.and_eq_true, Bool.and_eq_true] at this
        have := of_decide_eq_true this.1.1
        omega
      obtain ⟨a1, a2⟩ := apply_both s hs hm at_ ws hf 12 hM (by omega) (by omega)
      have hsm := apS_small s at_ ws 12 hM (by omega) (by omega)
      have hss := ssame_den (apS s at_ ws) (apS s at_ ws) ⟨Nat.le_trans (Nat.mul_le_mul_right 40 hsm.1) (by decide), fun r hr => Nat.le_trans (Nat.mul_le_mul_right 40 (hsm.2 r hr)) (by decide)⟩
      rw [storeEq_self] at hss
      rw [erw] at a1 a2
      generalize apS s at_ ws = T at *
      generalize apE s at_ ws = e at *
      have e1 : (e == e) = true := by simp
      simp only [go_sem]
      refine t_call_intro (a1) ?_
      simp only [go_sem]
      refine t_call_intro (a2) ?_
      simp only [go_sem]
      refine t_call_intro (hss) ?_
      simp only [e1, go_sem]
      refine t_call_intro (lives_den) ?_
      simp only [go_sem]
      simp only [aresult, ares, go_sem]
end Go.Proofs.Ytlfebjehmabejaa
