/- Chapter 06: the laws StateGets, StateDiffApplies and StateSplits, walked. -/
import Derived.Test.YtldonmombfpleaaPn
namespace Go.Proofs.Ytldonmombfpleaa
open Go Ab
attribute [local irreducible] awp aops aop asoft aeff aloop acall acallI acallT
attribute [local go_sem] Vl.row Rg.row Pr.row

theorem fnd_drop (k : ByteArray) (l : List Pr) (j : Nat) (h : j < l.length) : fnd (l.drop j) k = if l[j].key = k then some l[j] else fnd (l.drop (j + 1)) k := by
  rw [List.drop_eq_getElem_cons h]; rfl
set_option maxRecDepth 100000 in
set_option maxHeartbeats 1000000 in
theorem rhas_den (l : List Pr) (hl : l.length * 40 ≤ 140737488351232) (key : ByteArray) : PDen Try.prog 15 [.a (.slice 4 (l.map Pr.row)), .a (.str key)] (.a (.bool (fnd l key).isSome)) := by
  refine den_of_body k_ref06_Has ⟨rfl, Nat.le_of_ble_eq_true rfl, thaw_intro ?_⟩
  unfold c_ref06_Has
  simp only [go_sem]
  refine t_loop_intro (fun k : Nat => k ≤ l.length ∧ (fnd l key = fnd (l.drop k) key)) (fun k => l.length - k) 0 [4, 5, 6, 7, 8, 9, 10, 11, 12, 13, 14, 15, 16, 17, 18] (fun k => [(5, .a (.int .i64 k))]) ⟨by omega, by simp⟩ (by simp) (fun k => by simp) rfl ?_
  intro k hk0 fr_ hfr
  have hk : k ≤ l.length := hk0.1
  have hall := hk0.2
  clear hk0
  simp only [go_sem] at hfr
  subst hfr
  by_cases hlt : k < l.length
  · have h3 : (k : Int) < (l.length : Int) := by omega
    have ew := wrap1 k l.length hlt (by omega)
    have e := getD_map Pr.row l k hlt
    have er : l[k].row = [.str l[k].key, .int .i64 l[k].v.kind, .int .i64 l[k].v.n, .str l[k].v.s] := rfl
    have es := fnd_drop key l k hlt
    simp only [h3, e, er, go_sem]
    first | refine t_case_dec (fun h4 => ?_) (fun h4 => ?_) | refine t_case_ndec (fun h4 => ?_) (fun h4 => ?_) | refine t_case_eqI (fun h4 => ?_) (fun h4 => ?_) | refine t_case_neI (fun h4 => ?_) (fun h4 => ?_) | refine t_case_not (fun h4 => ?_) (fun h4 => ?_) | refine t_case_intro (fun h4 => ?_) (fun h4 => ?_)
    · simp only [go_sem]
      simp only [aresult, ares, go_sem]
      rw [hall, es, if_pos (ba_ext (by simpa using h4))]; rfl
    · simp only [ew, go_sem]
      refine t_round (k + 1) ⟨by omega, by rw [hall, es, if_neg (fun hc => by rw [hc] at h4; simp at h4)]⟩ (by omega) (by simp) rfl rfl (by simp) rfl
  · have h3 : ¬ (k : Int) < (l.length : Int) := by omega
    simp only [h3, go_sem]
    simp only [aresult, ares, go_sem]
    rw [hall, List.drop_eq_nil_of_le (by omega)]; rfl
theorem ap_len (a w : List Pr) : (apL a w).length ≤ a.length + w.length := mrg_len _ a w (Nat.le_refl _)
theorem df_len (a w : List Pr) : (dfL a w).length ≤ a.length + w.length := mrg_len _ a w (Nat.le_refl _)
theorem ap_fit {a w : List Pr} (ha : Srt a) (hw : Srt w) (fa : ∀ p ∈ a, p.fit) (fw : ∀ p ∈ w, p.fit) : ∀ p ∈ apL a w, p.fit := fun p hp => by
  rcases ap_mem ha hw hp with h | h
  · exact fa p h
  · exact fw p h.1
theorem df_fit {a w : List Pr} (ha : Srt a) (hw : Srt w) (fa : ∀ p ∈ a, p.fit) (fw : ∀ p ∈ w, p.fit) : ∀ p ∈ dfL a w, p.fit := fun p hp => by
  rcases df_mem ha hw hp with ⟨x, hx, rfl, _⟩ | ⟨h, _⟩
  · exact ⟨(fa x hx).1, by show (⟨#[]⟩ : ByteArray).size ≤ _; decide⟩
  · exact fw p h

set_option maxRecDepth 100000 in
set_option maxHeartbeats 2000000 in
theorem gets_den (l ws : List Pr) (key : ByteArray) (hlw : l.length + ws.length ≤ 1048576) (fl : ∀ p ∈ l, p.fit) (fw : ∀ p ∈ ws, p.fit) :
    PDen Try.prog 3 [.a (.slice 4 (l.map Pr.row)), .a (.slice 4 (ws.map Pr.row)), .a (.str key)] (.a (.bool true)) := by
  have n0 : ((0 : Int) != 0) = false := by decide
  have n1 : ((1 : Int) != 0) = true := by decide
  have e0 : (((0 : Nat) : Int) == 0) = true := by decide
  have e0' : ((0 : Int) == 0) = true := by decide
  by_cases hv : (stateV l && writesGo none ws) = true
  · have hv' := hv
    simp only [Bool.and_eq_true] at hv'
    obtain ⟨h1, h2⟩ := hv'
    have s1 := (state_iff _).1 h1
    have s2 := (writes_iff0 _).1 h2
    have hA := apply_ok l ws (by omega) (by omega) fl fw h1 h2
    have ln := ap_len l ws
    have fA := ap_fit s1.1 s2.1 fl fw
    have vA := ap_state h1 h2
    have hB := apply_ok (apL l ws) ws (by omega) (by omega) fA fw vA h2
    rw [ap_again h1 h2] at hB
    have hV := stateV_den (apL l ws) (by omega) fA
    rw [vA] at hV
    have hS := rsame_den (apL l ws) (apL l ws) (by omega)
    rw [prsEq_self] at hS
    have hG := fun y (hy : y ∈ ws) => get_den (apL l ws) (by omega) y.key
    refine den_of_body k_law06_StateGets ⟨rfl, Nat.le_of_ble_eq_true rfl, thaw_intro ?_⟩
    unfold c_law06_StateGets
    simp only [go_sem]
    refine t_call_intro (hA) ?_
    simp only [n0, go_sem]
    refine t_call_intro (hB) ?_
    simp only [n0, go_sem]
    refine t_call_intro (hV) ?_
    simp only [n0, go_sem]
    refine t_call_intro (hS) ?_
    simp only [go_sem]
    refine t_loop_intro (fun k : Nat => k ≤ ws.length) (fun k => ws.length - k) 0 [6, 11, 45, 46, 47, 48, 49, 50, 51, 52, 53, 54, 55, 56, 57, 58, 59, 60, 61, 62, 63] (fun k => [(11, .a (.int .i64 k))]) (by omega) (by simp) (fun k => by simp) rfl ?_
    intro k hk fr_ hfr
    simp only [go_sem] at hfr
    subst hfr
    by_cases hlt : k < ws.length
    · have h3 : (k : Int) < (ws.length : Int) := by omega
      have ew := wrap1 k ws.length hlt (by omega)
      have e := getD_map Pr.row ws k hlt
      have er : ws[k].row = [.str ws[k].key, .int .i64 ws[k].v.kind, .int .i64 ws[k].v.n, .str ws[k].v.s] := rfl
      have hg := hG ws[k] (List.getElem_mem hlt)
      rw [ap_get h1 h2 (List.getElem_mem hlt)] at hg
      have q1 : (ws[k].v.kind == ws[k].v.kind) = true := by simp
      have q2 : (ws[k].v.n == ws[k].v.n) = true := by simp
      have q3 : (ws[k].v.s.toList == ws[k].v.s.toList) = true := by simp
      simp only [h3, e, er, go_sem]
      refine t_call_intro (hg) ?_
      simp only [h3, e, er, q1, q2, q3, Bool.and_self, ew, go_sem]
      refine t_round (k + 1) (by omega) (by omega) (by simp) rfl rfl (by simp) rfl
    · have h3 : ¬ (k : Int) < (ws.length : Int) := by omega
      simp only [h3, go_sem]
      refine t_call_intro (rhas_den ws (by omega) key) ?_
      cases hf : fnd ws key with
      | some y =>
        simp only [Option.isSome_some, go_sem]
        refine t_call_intro (examples_den) ?_
        simp only [go_sem]
        simp only [aresult, ares, go_sem]
      | none =>
        have hg1 := get_den (apL l ws) (by omega) key
        rw [ap_old h1 h2 hf] at hg1
        have q1 : ((getP l key).kind == (getP l key).kind) = true := by simp
        have q2 : ((getP l key).n == (getP l key).n) = true := by simp
        have q3 : ((getP l key).s.toList == (getP l key).s.toList) = true := by simp
        simp only [Option.isSome_none, go_sem]
        refine t_call_intro (hg1) ?_
        simp only [go_sem]
        refine t_call_intro (get_den l (by omega) key) ?_
        simp only [q1, q2, q3, Bool.and_self, go_sem]
        refine t_call_intro (examples_den) ?_
        simp only [go_sem]
        simp only [aresult, ares, go_sem]
  · have hA := apply_no l ws (by omega) (by omega) fl fw (by simpa using hv)
    refine den_of_body k_law06_StateGets ⟨rfl, Nat.le_of_ble_eq_true rfl, thaw_intro ?_⟩
    unfold c_law06_StateGets
    simp only [go_sem]
    refine t_call_intro (hA) ?_
    simp only [n1, e0, e0', go_sem]
    refine t_call_intro (examples_den) ?_
    simp only [go_sem]
    simp only [aresult, ares, go_sem]

set_option maxRecDepth 100000 in
set_option maxHeartbeats 2000000 in
theorem diffs_den (a b : List Pr) (hlw : a.length + b.length ≤ 1048576) (fa : ∀ p ∈ a, p.fit) (fb : ∀ p ∈ b, p.fit) :
    PDen Try.prog 5 [.a (.slice 4 (a.map Pr.row)), .a (.slice 4 (b.map Pr.row))] (.a (.bool true)) := by
  have n0 : ((0 : Int) != 0) = false := by decide
  have e1 : ((1 : Int) == 1) = true := by decide
  have e0 : (((0 : Nat) : Int) == 0) = true := by decide
  have e0' : ((0 : Int) == 0) = true := by decide
  by_cases hv : (stateV a && stateV b) = true
  · have hv' := hv
    simp only [Bool.and_eq_true] at hv'
    obtain ⟨h1, h2⟩ := hv'
    have s1 := (state_iff _).1 h1
    have s2 := (state_iff _).1 h2
    have hD := diff_ok a b (by omega) (by omega) fa fb h1 h2
    have ln := df_len a b
    have fD := df_fit s1.1 s2.1 fa fb
    have vD := df_writes h1 h2
    have hA := apply_ok a (dfL a b) (by omega) (by omega) fa fD h1 vD
    rw [df_apply h1 h2] at hA
    have hVa := stateV_den a (by omega) fa
    have hVb := stateV_den b (by omega) fb
    rw [h1] at hVa
    rw [h2] at hVb
    have hS := rsame_den b b (by omega)
    have hS2 := ssame_den b b (by omega)
    rw [prsEq_self] at hS hS2
    have hN := diff_ok a a (by omega) (by omega) fa fa h1 h1
    rw [df_self h1] at hN
    refine den_of_body k_law06_StateDiffApplies ⟨rfl, Nat.le_of_ble_eq_true rfl, thaw_intro ?_⟩
    unfold c_law06_StateDiffApplies
    simp only [go_sem]
    refine t_call_intro (hD) ?_
    simp only [go_sem]
    refine t_call_intro (hVa) ?_
    simp only [go_sem]
    refine t_call_intro (hVb) ?_
    simp only [go_sem]
    refine t_call_intro (hA) ?_
    simp only [n0, go_sem]
    refine t_call_intro (hS2) ?_
    simp only [go_sem]
    refine t_call_intro (hS) ?_
    simp only [go_sem]
    refine t_loop_intro (fun k : Nat => k ≤ (dfL a b).length) (fun k => (dfL a b).length - k) 0 [4, 9, 60, 61, 62, 63, 64, 65, 66, 67, 68, 69, 70, 71, 72, 73, 74, 75, 76, 77, 78, 79, 80, 81, 82, 83, 84, 85, 86, 87, 88, 89, 90, 91, 92, 93, 94, 95] (fun k => [(9, .a (.int .i64 k))]) (by omega) (by simp) (fun k => by simp) rfl ?_
    intro k hk fr_ hfr
    simp only [go_sem] at hfr
    subst hfr
    by_cases hlt : k < (dfL a b).length
    · have h3 : (k : Int) < ((dfL a b).length : Int) := by omega
      have ew := wrap1 k (dfL a b).length hlt (by omega)
      have e := getD_map Pr.row (dfL a b) k hlt
      have er : (dfL a b)[k].row = [.str (dfL a b)[k].key, .int .i64 (dfL a b)[k].v.kind, .int .i64 (dfL a b)[k].v.n, .str (dfL a b)[k].v.s] := rfl
      obtain ⟨d1, d2⟩ := df_diff h1 h2 (List.getElem_mem hlt)
      rw [vlEq_row] at d1
      have hgb := get_den b (by omega) (dfL a b)[k].key
      rw [← d2] at d1 hgb
      have q1 : ((dfL a b)[k].v.kind == (dfL a b)[k].v.kind) = true := by simp
      have q2 : ((dfL a b)[k].v.n == (dfL a b)[k].v.n) = true := by simp
      have q3 : ((dfL a b)[k].v.s.toList == (dfL a b)[k].v.s.toList) = true := by simp
      simp only [h3, e, er, go_sem]
      refine t_call_intro (get_den a (by omega) (dfL a b)[k].key) ?_
      simp only [h3, e, er, go_sem]
      refine t_call_intro (hgb) ?_
      simp only [h3, e, er, d1, go_sem]
      refine t_call_intro (hgb) ?_
      simp only [q1, q2, q3, Bool.and_self, ew, go_sem]
      refine t_round (k + 1) (by omega) (by omega) (by simp) rfl rfl (by simp) rfl
    · have h3 : ¬ (k : Int) < ((dfL a b).length : Int) := by omega
      simp only [h3, go_sem]
      refine t_call_intro (hN) ?_
      simp only [e0, e0', go_sem]
      refine t_call_intro (examples_den) ?_
      simp only [go_sem]
      simp only [aresult, ares, go_sem]
  · have hD := diff_no a b (by omega) (by omega) fa fb (by simpa using hv)
    by_cases h1 : stateV a = true
    · have h2 : stateV b = false := by
        cases hb : stateV b with
        | false => rfl
        | true => rw [h1, hb] at hv; exact absurd rfl hv
      have hVa := stateV_den a (by omega) fa
      have hVb := stateV_den b (by omega) fb
      rw [h1] at hVa
      rw [h2] at hVb
      refine den_of_body k_law06_StateDiffApplies ⟨rfl, Nat.le_of_ble_eq_true rfl, thaw_intro ?_⟩
      unfold c_law06_StateDiffApplies
      simp only [go_sem]
      refine t_call_intro (hD) ?_
      simp only [go_sem]
      refine t_call_intro (hVa) ?_
      simp only [go_sem]
      refine t_call_intro (hVb) ?_
      simp only [e1, e0, e0', go_sem]
      refine t_call_intro (examples_den) ?_
      simp only [go_sem]
      simp only [aresult, ares, go_sem]
    · have h1 : stateV a = false := by simpa using h1
      have hVa := stateV_den a (by omega) fa
      rw [h1] at hVa
      refine den_of_body k_law06_StateDiffApplies ⟨rfl, Nat.le_of_ble_eq_true rfl, thaw_intro ?_⟩
      unfold c_law06_StateDiffApplies
      simp only [go_sem]
      refine t_call_intro (hD) ?_
      simp only [go_sem]
      refine t_call_intro (hVa) ?_
      simp only [e1, e0, e0', go_sem]
      refine t_call_intro (examples_den) ?_
      simp only [go_sem]
      simp only [aresult, ares, go_sem]
end Go.Proofs.Ytldonmombfpleaa
