/- Chapter 37: what Record leaves, plainly. -/
import Derived.Test.YtbiongfnbbnndaaRf6
set_option linter.unusedSimpArgs false
set_option linter.unusedVariables false
namespace Go.Proofs.Ytbiongfnbbnndaa
open Go Ab Go.RowKit

theorem rsGo_app (cl : Int) : ∀ (a b : List Rpl) (s : Int), rsGo cl s (a ++ b) = (rsGo cl s a && rsGo cl (s + a.length) b)
  | [], b, s => by simp [rsGo]
  | x :: a, b, s => by
    show (rpOk cl s x && rsGo cl (s + 1) (a ++ b)) = (rpOk cl s x && rsGo cl (s + 1) a && rsGo cl (s + ((x :: a).length : Nat)) b)
    rw [rsGo_app cl a b (s + 1), Bool.and_assoc, show s + (((x :: a).length : Nat) : Int) = s + 1 + (a.length : Int) by simp only [List.length_cons]; omega]
theorem rsGo_drop (cl : Int) (l : List Rpl) (s : Int) (d : Nat) (hd : d ≤ l.length) (h : rsGo cl s l = true) : rsGo cl (s + d) (l.drop d) = true := by
  have e := rsGo_app cl (l.take d) (l.drop d) s
  rw [List.take_append_drop, h] at e
  have e := e.symm
  rw [Bool.and_eq_true] at e
  have := e.2
  rw [List.length_take, Nat.min_eq_left hd] at this
  exact this
theorem rsGo_lt (cl : Int) : ∀ (l : List Rpl) (s : Int), rsGo cl s l = true → ∀ x ∈ l, s ≤ x.sq ∧ x.sq < s + l.length
  | [], _, _, x, h => by cases h
  | y :: l, s, hq, x, h => by
    unfold rsGo at hq
    rw [Bool.and_eq_true] at hq
    rcases List.mem_cons.1 h with rfl | h
    · have h1 := hq.1
      unfold rpOk at h1
      simp only [Bool.and_eq_true, beq_iff_eq] at h1
      have := h1.1.2
      simp only [List.length_cons]; omega
    · have := rsGo_lt cl l (s + 1) hq.2 x h
      simp only [List.length_cons]; omega
theorem sesGo_of : ∀ (l : List Ses) (p : Option Ses), (∀ y, p = some y → ∀ x ∈ l, y.cl < x.cl) → AscC l → (∀ x ∈ l, sesV x = true) → sesGo p l = true
  | [], _, _, _, _ => rfl
  | x :: xs, p, h1, h2, h3 => by
    unfold sesGo
    have h2 := List.pairwise_cons.1 h2
    rw [h3 x (by simp), sesGo_of xs (some x) (fun y hy z hz => by cases hy; exact h2.1 z hz) h2.2 fun z hz => h3 z (by simp [hz])]
    cases p with
    | none => rfl
    | some y => simp [sStep, h1 y rfl x (by simp)]
theorem sessV_of {l : List Ses} (h2 : AscC l) (h3 : ∀ x ∈ l, sesV x = true) : sessV l = true := sesGo_of l none (fun _ h => by cases h) h2 h3
/-! The new session -/
theorem fnd_rs {l : List Ses} (h : sessV l = true) (c : Int) : ((fndC l c).rs.length : Int) = storedI (nextI l c) ∧ rsGo c (nextI l c - (fndC l c).rs.length) (fndC l c).rs = true := by
  unfold fndC nextI
  cases hs : sOf l c with
  | none => exact ⟨by simp [storedI], rfl⟩
  | some s =>
    have hm := sOf_mem hs
    have hv := (sessV_asc h).2 s hm.1
    unfold sesV at hv
    rw [Bool.and_eq_true] at hv
    have hh := (sHead_of hv.1).le
    rw [hm.2] at hv
    exact ⟨by simpa using hh, hv.2⟩
theorem last8_eq (rs : List Rpl) (r : Rpl) : last8 (rs ++ [r]) = rs.drop (rs.length + 1 - 8) ++ [r] := by
  unfold last8
  rw [List.length_append, List.length_cons, List.length_nil, List.drop_append_of_le_length (by omega)]
theorem newS_valid {l : List Ses} {r : Rpl} (h : RecIn l r) : sesV (newS l r) = true := by
  obtain ⟨h1, h2⟩ := fnd_rs h.v r.cl
  have hq := next_in h.v r.cl
  rw [← h.sq] at h1 h2 hq
  have g1 := h.c1
  have g2 := h.c2
  have g3 := h.q
  unfold newS sesV sHead
  simp only []
  have hl : (last8 ((fndC l r.cl).rs ++ [r])).length = (fndC l r.cl).rs.length + 1 - ((fndC l r.cl).rs.length + 1 - 8) := by
    unfold last8; simp
  have hst : ((last8 ((fndC l r.cl).rs ++ [r])).length : Int) = storedI (r.sq + 1) := by
    rw [hl]
    unfold storedI at h1 ⊢
    split at h1 <;> split <;> omega
  have hgo : rsGo r.cl (r.sq + 1 - (last8 ((fndC l r.cl).rs ++ [r])).length) (last8 ((fndC l r.cl).rs ++ [r])) = true := by
    have e1 : rsGo r.cl (r.sq - ((fndC l r.cl).rs.length : Int)) ((fndC l r.cl).rs ++ [r]) = true := by
      rw [rsGo_app, h2]
      unfold rsGo rsGo rpOk
      simp [h.o]
    have e2 := rsGo_drop r.cl _ _ ((fndC l r.cl).rs.length + 1 - 8) (by rw [List.length_append, List.length_cons, List.length_nil]; omega) e1
    have e3 : last8 ((fndC l r.cl).rs ++ [r]) = ((fndC l r.cl).rs ++ [r]).drop ((fndC l r.cl).rs.length + 1 - 8) := by
      unfold last8; rw [List.length_append, List.length_cons, List.length_nil]
    rw [hl, e3]
    rw [show r.sq + 1 - (((fndC l r.cl).rs.length + 1 - ((fndC l r.cl).rs.length + 1 - 8) : Nat) : Int) = r.sq - ((fndC l r.cl).rs.length : Int) + (((fndC l r.cl).rs.length + 1 - 8 : Nat) : Int) by omega]
    exact e2
  rw [hgo, hst]
  simp only [Bool.and_true, beq_self_eq_true, Bool.and_eq_true, decide_eq_true_eq]
  exact ⟨⟨⟨by omega, by omega⟩, by omega⟩, by omega⟩
theorem recL_asc {l : List Ses} {r : Rpl} (ha : AscC l) : AscC (recL l r) := by
  obtain ⟨h0, h1, h2⟩ := loC_spec r.cl l ha
  rw [recL_eq l r ha]
  have hp : ∀ s ∈ l.take (loC r.cl l), s.cl < r.cl := fun s hs => by
    obtain ⟨i, hi, rfl⟩ := List.mem_iff_getElem.1 hs
    rw [List.length_take] at hi
    rw [List.getElem_take]
    exact (cmpC_lt _ _).1 (h1 i (by omega) (by omega))
  have hf : ∀ s ∈ l.filter (fun s => decide (r.cl < s.cl)), r.cl < s.cl := fun s hs => of_decide_eq_true (List.mem_filter.1 hs).2
  refine List.pairwise_append.2 ⟨List.pairwise_append.2 ⟨ha.sublist (List.take_sublist _ _), by simp, fun a h b hb => ?_⟩, ha.sublist List.filter_sublist, fun a h b hb => ?_⟩
  · rw [List.mem_singleton.1 hb]; exact hp a h
  · rcases List.mem_append.1 h with h | h
    · exact Int.lt_trans (hp a h) (hf b hb)
    · rw [List.mem_singleton.1 h]; exact hf b hb
theorem recL_valid {l : List Ses} {r : Rpl} (h : RecIn l r) : sessV (recL l r) = true :=
  sessV_of (recL_asc (sessV_asc h.v).1) fun s hs => by
    rcases recL_mem (sessV_asc h.v).1 hs with hs | rfl
    · exact (sessV_asc h.v).2 s hs
    · exact newS_valid h
/-- A client has one session. -/
theorem sOf_of {l : List Ses} (ha : AscC l) {s : Ses} (h : s ∈ l) : sOf l s.cl = some s := by
  cases hs : sOf l s.cl with
  | none =>
    unfold sOf at hs
    rw [List.find?_eq_none] at hs
    have := hs s h
    simp at this
  | some t =>
    obtain ⟨h1, h2⟩ := sOf_mem hs
    obtain ⟨i, hi, rfl⟩ := List.mem_iff_getElem.1 h
    obtain ⟨j, hj, rfl⟩ := List.mem_iff_getElem.1 h1
    have hp := List.pairwise_iff_getElem.1 ha
    rcases Nat.lt_trichotomy i j with q | q | q
    · have := hp i j hi hj q; omega
    · subst q; rfl
    · have := hp j i hj hi q; omega
theorem recL_new {l : List Ses} {r : Rpl} (h : RecIn l r) : sOf (recL l r) r.cl = some (newS l r) := by
  have ha := (sessV_asc h.v).1
  have hm : newS l r ∈ recL l r := by rw [recL_eq l r ha]; simp
  exact sOf_of (recL_asc ha) hm
theorem recL_old {l : List Ses} {r : Rpl} (h : RecIn l r) {c : Int} (hc : c ≠ r.cl) : sOf (recL l r) c = sOf l c := by
  have ha := (sessV_asc h.v).1
  have hb := recL_asc (r := r) ha
  cases hs : sOf l c with
  | some s =>
    obtain ⟨h1, h2⟩ := sOf_mem hs
    subst h2
    refine sOf_of hb ?_
    obtain ⟨_, q1, q2⟩ := loC_spec r.cl l ha
    rw [recL_eq l r ha]
    simp only [List.mem_append, List.mem_filter, decide_eq_true_eq]
    obtain ⟨i, hi, rfl⟩ := List.mem_iff_getElem.1 h1
    by_cases hlt : i < loC r.cl l
    · refine .inl (.inl ?_)
      rw [List.mem_take_iff_getElem]
      exact ⟨i, by omega, rfl⟩
    · have := (cmp_hi _ _).1 (q2 i hi (by omega))
      exact .inr ⟨h1, by omega⟩
  | none =>
    cases ht : sOf (recL l r) c with
    | none => rfl
    | some t =>
      obtain ⟨h1, h2⟩ := sOf_mem ht
      rcases recL_mem ha h1 with h1 | rfl
      · have := sOf_of ha h1
        rw [h2, hs] at this; cases this
      · exact absurd h2.symm hc
theorem recL_next {l : List Ses} {r : Rpl} (h : RecIn l r) (c : Int) : nextI (recL l r) c = if c = r.cl then nextI l c + 1 else nextI l c := by
  by_cases hc : c = r.cl
  · subst hc
    rw [if_pos rfl, ← h.sq]
    unfold nextI
    rw [recL_new h]; rfl
  · rw [if_neg hc]
    unfold nextI
    rw [recL_old h hc]
theorem rpOf_last {rs : List Rpl} {r : Rpl} (h : ∀ x ∈ rs, x.sq ≠ r.sq) : rpOf (rs ++ [r]) r.sq = some r := by
  unfold rpOf
  rw [List.find?_append, List.find?_eq_none.2 (fun x hx => by simpa using h x hx)]
  simp
theorem recL_look {l : List Ses} {r : Rpl} (h : RecIn l r) : lookP (recL l r) r.cl r.sq = (r, 0) := by
  have hq := next_in h.v r.cl
  rw [← h.sq] at hq
  obtain ⟨h1, h2⟩ := fnd_rs h.v r.cl
  rw [← h.sq] at h1 h2
  have e1 : nextI (recL l r) r.cl = r.sq + 1 := by rw [recL_next h, if_pos rfl, ← h.sq]
  have e2 : fndC (recL l r) r.cl = newS l r := by unfold fndC; rw [recL_new h]
  unfold lookP
  rw [recL_valid h, if_neg (by simp; omega), e1, if_neg (by omega), e2]
  have e3 : rpOf (newS l r).rs r.sq = some r := by
    unfold newS
    rw [last8_eq]
    refine rpOf_last fun x hx => ?_
    have := rsGo_lt _ _ _ h2 x (List.mem_of_mem_drop hx)
    omega
  rw [e3]
end Go.Proofs.Ytbiongfnbbnndaa
