/- Chapter 36: merging is fair. -/
import Derived.Test.YtemeiopghbpamaaBo
set_option linter.unusedSimpArgs false
set_option linter.unusedVariables false
namespace Go.Proofs.Ytemeiopghbpamaa
open Go Ab Go.RowKit
set_option maxRecDepth 100000
attribute [local irreducible] awp aops aop asoft aeff aloop acall acallI acallT
attribute [local go_sem] Vl.row sRow

def cnt (L : List Req) (j : Nat) : Nat := L.countP (fun r => r.cl == (j : Int))
theorem cnt_snoc (L : List Req) (r : Req) (j : Nat) : cnt (L ++ [r]) j = cnt L j + if r.cl = (j : Int) then 1 else 0 := by
  unfold cnt
  rw [List.countP_append]
  by_cases h : r.cl = (j : Int) <;> simp [h]
theorem cnt_append (L M : List Req) (j : Nat) : cnt (L ++ M) j = cnt L j + cnt M j := List.countP_append
def lenD (ls : List (List Req)) (j : Nat) : Nat := (ls.getD j []).length
theorem lenD_get (ls : List (List Req)) (j : Nat) (h : j < ls.length) : lenD ls j = ls[j].length := by
  unfold lenD; rw [getD_get ls [] j h]
/-- Each input has the requests of its own client alone. -/
def Own (ls : List (List Req)) : Prop := ∀ j (h : j < ls.length) i (hi : i < ls[j].length), ls[j][i].cl = (j : Int)
theorem cnt_mrow (ls : List (List Req)) (H : Own ls) (i c : Nat) (hc : c < ls.length) : ∀ j, j ≤ ls.length → cnt (mrow ls i j) c = if c < j ∧ i < lenD ls c then 1 else 0
  | 0, _ => by rw [mrow_zero, if_neg (by omega)]; rfl
  | j + 1, h => by
    have ih := cnt_mrow ls H i c hc j (by omega)
    have hj : j < ls.length := by omega
    by_cases hi : i < ls[j].length
    · rw [mrow_some ls i j hj hi, cnt_snoc, ih, H j hj i hi]
      by_cases e : c = j
      · subst e
        rw [lenD_get ls c hj, if_neg (by omega), if_pos rfl, if_pos ⟨by omega, hi⟩]
      · rw [if_neg (show ¬ ((j : Int) = (c : Int)) by omega)]
        by_cases q : c < j ∧ i < lenD ls c
        · rw [if_pos q, if_pos ⟨by omega, q.2⟩]
        · rw [if_neg q, if_neg (by omega)]
    · rw [mrow_none ls i j hj hi, ih]
      by_cases e : c = j
      · subst e
        rw [lenD_get ls c hj, if_neg (by omega), if_neg (by omega)]
      · by_cases q : c < j ∧ i < lenD ls c
        · rw [if_pos q, if_pos ⟨by omega, q.2⟩]
        · rw [if_neg q, if_neg (by omega)]
theorem cnt_mcol (ls : List (List Req)) (H : Own ls) (c : Nat) (hc : c < ls.length) : ∀ i, cnt (mcol ls i) c = min i (lenD ls c)
  | 0 => by rw [Nat.zero_min]; rfl
  | i + 1 => by
    rw [mcol, cnt_append, cnt_mcol ls H c hc i, cnt_mrow ls H i c hc _ (Nat.le_refl _)]
    by_cases q : i < lenD ls c
    · rw [if_pos ⟨hc, q⟩]; omega
    · rw [if_neg (by omega)]; omega
/-- What a step of a fair merge is. -/
def Fair (ls : List (List Req)) (A : List Req) (r : Req) : Prop :=
  ∃ c, ∃ hc : c < ls.length, r.cl = (c : Int) ∧ (∃ hk : cnt A c < ls[c].length, r = ls[c][cnt A c]) ∧ ∀ j, j < ls.length → cnt (A ++ [r]) j + 1 < cnt (A ++ [r]) c → ¬ cnt (A ++ [r]) j < lenD ls j
def Chain (ls : List (List Req)) (L : List Req) : Prop := ∀ k (h : k < L.length), Fair ls (L.take k) L[k]
theorem chain_snoc {ls : List (List Req)} {L : List Req} {r : Req} (h : Chain ls L) (hr : Fair ls L r) : Chain ls (L ++ [r]) := by
  intro k hk
  rw [List.length_append, List.length_singleton] at hk
  by_cases e : k < L.length
  · rw [List.take_append_of_le_length (by omega), List.getElem_append_left e]
    exact h k e
  · have e : k = L.length := by omega
    subst e
    rw [List.take_left, List.getElem_append_right (Nat.le_refl _)]
    simpa using hr
theorem fair_step (ls : List (List Req)) (H : Own ls) (i j : Nat) (hj : j < ls.length) (hi : i < ls[j].length) : Fair ls (mcol ls i ++ mrow ls i j) ls[j][i] := by
  have hcn : ∀ c, c < ls.length → cnt (mcol ls i ++ mrow ls i j) c = min i (lenD ls c) + if c < j ∧ i < lenD ls c then 1 else 0 := fun c hc => by
    rw [cnt_append, cnt_mcol ls H c hc, cnt_mrow ls H i c hc j (by omega)]
  have hj0 : cnt (mcol ls i ++ mrow ls i j) j = i := by
    rw [hcn j hj, lenD_get ls j hj, if_neg (by omega)]; omega
  refine ⟨j, hj, H j hj i hi, ⟨by rw [hj0]; exact hi, by simp only [hj0]⟩, fun c hc hlt => ?_⟩
  rw [cnt_snoc, cnt_snoc, hj0, H j hj i hi, if_pos rfl] at hlt
  rw [cnt_snoc, H j hj i hi]
  by_cases e : (j : Int) = (c : Int)
  · have : c = j := by omega
    subst this
    rw [hj0] at hlt
    omega
  · rw [if_neg e] at hlt ⊢
    rw [hcn c hc] at hlt ⊢
    by_cases q : c < j ∧ i < lenD ls c
    · rw [if_pos q] at hlt ⊢; omega
    · rw [if_neg q] at hlt ⊢; omega
theorem chain_row (ls : List (List Req)) (H : Own ls) (i : Nat) (h : Chain ls (mcol ls i)) : ∀ j, j ≤ ls.length → Chain ls (mcol ls i ++ mrow ls i j)
  | 0, _ => by rw [mrow_zero, List.append_nil]; exact h
  | j + 1, hj => by
    have ih := chain_row ls H i h j (by omega)
    by_cases hi : i < ls[j].length
    · rw [mrow_some ls i j (by omega) hi, ← List.append_assoc]
      exact chain_snoc ih (fair_step ls H i j (by omega) hi)
    · rw [mrow_none ls i j (by omega) hi]; exact ih
theorem chain_col (ls : List (List Req)) (H : Own ls) : ∀ i, Chain ls (mcol ls i)
  | 0 => fun k h => absurd h (Nat.not_lt_zero _)
  | i + 1 => chain_row ls H i (chain_col ls H i) _ (Nat.le_refl _)
theorem chain_merge (ls : List (List Req)) (H : Own ls) : Chain ls (mergeR ls) := chain_col ls H _
/-! Its length -/
def sumL (ls : List (List Req)) : Nat → Nat
  | 0 => 0
  | k + 1 => sumL ls k + lenD ls k
def sumM (ls : List (List Req)) (i : Nat) : Nat → Nat
  | 0 => 0
  | k + 1 => sumM ls i k + min i (lenD ls k)
theorem sumM_row (ls : List (List Req)) (i : Nat) : ∀ k, k ≤ ls.length → sumM ls (i + 1) k = sumM ls i k + (mrow ls i k).length
  | 0, _ => rfl
  | k + 1, h => by
    have ih := sumM_row ls i k (by omega)
    simp only [sumM]
    rw [ih, lenD_get ls k (by omega)]
    by_cases hi : i < ls[k].length
    · rw [mrow_some ls i k (by omega) hi, List.length_append, List.length_singleton]; omega
    · rw [mrow_none ls i k (by omega) hi]; omega
theorem sumM_zero (ls : List (List Req)) : ∀ k, sumM ls 0 k = 0
  | 0 => rfl
  | k + 1 => by simp only [sumM]; rw [sumM_zero ls k]; omega
theorem mcol_sum (ls : List (List Req)) : ∀ i, (mcol ls i).length = sumM ls i ls.length
  | 0 => (sumM_zero ls _).symm
  | i + 1 => by rw [mcol, List.length_append, mcol_sum ls i, sumM_row ls i _ (Nat.le_refl _)]
theorem most_ge (ls : List (List Req)) : ∀ k, ∀ j, j < k → lenD ls j ≤ most ls k
  | 0, j, h => by omega
  | k + 1, j, h => by
    simp only [most]
    by_cases e : j = k
    · subst e; exact Nat.le_max_right _ _
    · exact Nat.le_trans (most_ge ls k j (by omega)) (Nat.le_max_left _ _)
theorem sumM_all (ls : List (List Req)) (m : Nat) : ∀ k, (∀ j, j < k → lenD ls j ≤ m) → sumM ls m k = sumL ls k
  | 0, _ => rfl
  | k + 1, h => by
    simp only [sumM, sumL]
    rw [sumM_all ls m k fun j hj => h j (by omega), Nat.min_eq_right (h k (by omega))]
theorem merge_sum (ls : List (List Req)) : (mergeR ls).length = sumL ls ls.length := by
  unfold mergeR
  rw [mcol_sum, sumM_all ls _ _ fun j hj => most_ge ls _ j hj]
theorem sumL_le (ls : List (List Req)) (h : ∀ l ∈ ls, l.length ≤ 40) : ∀ k, sumL ls k ≤ k * 40
  | 0 => Nat.le_refl _
  | k + 1 => by
    have ih := sumL_le ls h k
    have : lenD ls k ≤ 40 := by
      unfold lenD
      rw [List.getD_eq_getElem?_getD]
      cases hk : ls[k]? with
      | none => exact Nat.zero_le _
      | some l => exact h l (List.mem_of_getElem? hk)
    simp only [sumL]; omega
/-! What is counted -/
def cntR (n : Nat) (L : List Req) : List (List Atom) := (List.range n).map fun j => [.int .i64 (cnt L j : Nat)]
theorem cntR_len (n : Nat) (L : List Req) : (cntR n L).length = n := by simp [cntR]
theorem cntR_zero (n : Nat) : List.replicate n [Atom.int .i64 0] = cntR n [] := by
  unfold cntR
  apply List.ext_getElem (by simp)
  intro i h1 h2
  simp [cnt]
theorem cntR_get (n : Nat) (L : List Req) (j : Nat) (h : j < n) : (cntR n L).getD j [] = [.int .i64 (cnt L j : Nat)] := by
  unfold cntR
  rw [List.getD_eq_getElem?_getD, List.getElem?_map, List.getElem?_range h]; rfl
theorem cntR_set (n : Nat) (L : List Req) (r : Req) (c : Nat) (hc : c < n) (hr : r.cl = (c : Int)) : (cntR n L).set c [.int .i64 (cnt L c + 1 : Nat)] = cntR n (L ++ [r]) := by
  apply List.ext_getElem (by simp [cntR])
  intro i h1 h2
  rw [List.getElem_set]
  simp only [cntR, List.getElem_map, List.getElem_range, cnt_snoc, hr]
  by_cases e : c = i
  · subst e; simp
  · have : ¬ ((c : Int) = (i : Int)) := by omega
    simp [e, this]
set_option maxHeartbeats 8000000 in
theorem BatchFair_den (ls : List (List Req)) (hl : ∀ l ∈ ls, Reqs.fit l) : PDen Try.prog 3 [.a (.slice 1 (ls.map lsRow))] (.a (.bool true)) := by
  have fa := short_den ls
  cases h1 : shortL ls with
  | false =>
    rw [h1] at fa
    refine den_of_body k_law36_BatchFair ⟨rfl, Nat.le_of_ble_eq_true rfl, thaw_intro ?_⟩
    unfold c_law36_BatchFair
    simp only [go_sem]
    refine t_call_intro (fa) ?_
    simp only [go_sem]
    refine t_call_intro (works_den) ?_
    simp only [go_sem]
    simp only [aresult, ares, go_sem]
  | true =>
  rw [h1] at fa
  obtain ⟨g1, g2⟩ := short_of ls h1
  have hM := merge_den ls (by omega) (fun l h => by have := g2 l h; omega) fun l h => (hl l h).blk
  have hS := merge_sum ls
  have hn := merge_len ls g1 g2
  have hf : ∀ r ∈ mergeR ls, r.fits := fun r hr => let ⟨l, h, hrl⟩ := merge_mem ls r hr; ((hl l h).all r hrl).fits
  have sl := sumL_le ls g2
  refine den_of_body k_law36_BatchFair ⟨rfl, Nat.le_of_ble_eq_true rfl, thaw_intro ?_⟩
  unfold c_law36_BatchFair
  simp only [go_sem]
  refine t_call_intro (fa) ?_
  simp only [go_sem]
  refine t_loop_intro (fun k : Nat => k ≤ ls.length ∧ (∀ j (h : j < ls.length), j < k → ∀ i (hi : i < ls[j].length), ls[j][i].cl = (j : Int))) (fun k => ls.length - k) 0 [2, 3, 4, 5, 15, 16, 17, 18, 19, 20, 21, 22, 23, 24, 25, 26, 27, 28, 29, 30, 31, 32, 33, 34, 35, 36, 37, 38, 39, 40, 41, 42, 43, 44, 45, 46, 47] (fun k => [(3, .a (.int .i64 (sumL ls k : Nat))), (4, .a (.int .i64 k))]) ⟨by omega, by (intro j h h2; omega)⟩ (by first | (simp; done) | simp [sumL]) (fun k => by simp) rfl ?_
  intro k hk0 fr_ hfr
  have hk : k ≤ ls.length := hk0.1
  have hall := hk0.2
  clear hk0
  simp only [go_sem] at hfr
  subst hfr
  by_cases hlt : k < ls.length
  · have h1 : (k : Int) < (ls.length : Int) := by omega
    have e := getD_ls ls k hlt
    have ew := wrap1 k ls.length hlt (by omega)
    have hk40 : ls[k].length ≤ 40 := g2 _ (List.getElem_mem hlt)
    have sk := sl k
    have skb : k * 40 ≤ 20 * 40 := Nat.mul_le_mul_right _ (by omega)
    have es : IntKind.i64.wrap (((sumL ls k : Nat) : Int) + ((ls[k].length : Nat) : Int)) = ((sumL ls (k + 1) : Nat) : Int) := by
      rw [IntKind.wrap_i64]
      simp only [sumL]
      rw [lenD_get ls k hlt]
      omega
    simp only [h1, go_sem]
    refine t_loop_intro (fun i : Nat => i ≤ ls[k].length ∧ ∀ i' (hi : i' < ls[k].length), i' < i → ls[k][i'].cl = (k : Int)) (fun i => ls[k].length - i) 0 [2, 5, 21, 22, 23, 24, 25, 26, 27, 28, 29, 30, 31, 32, 33, 34, 35, 36, 37, 38, 39, 40] (fun i => [(5, .a (.int .i64 i))]) ⟨Nat.zero_le _, fun i' _ h => absurd h (Nat.not_lt_zero _)⟩ (by simp) (fun i => by simp) rfl ?_
    intro i hi0 fr_ hfr
    have hi := hi0.1
    have hin := hi0.2
    clear hi0
    simp only [go_sem] at hfr
    subst hfr
    by_cases hil : i < ls[k].length
    · have h2 : (i : Int) < (ls[k].length : Int) := by omega
      have e2 := getD_map Req.row ls[k] i hil
      have ew2 := wrap1 i ls[k].length hil (by omega)
      rw [rowr] at e2
      by_cases hc : ls[k][i].cl = (k : Int)
      · simp only [h1, e, h2, e2, hc, bne_self_eq_false, ew2, go_sem]
        refine t_round (i + 1) ⟨by omega, fun i' hi' hlt' => ?_⟩ (by omega) (by simp) rfl rfl (by simp) rfl
        by_cases q : i' = i
        · subst q; exact hc
        · exact hin i' hi' (by omega)
      · have hc2 : (ls[k][i].cl != (k : Int)) = true := by simpa using hc
        simp only [h1, e, h2, e2, hc2, go_sem]
        refine t_call_intro (works_den) ?_
        simp only [go_sem]
        simp only [aresult, ares, go_sem]
    · have h2 : ¬ (i : Int) < (ls[k].length : Int) := by omega
      have hnx : ∀ j (h : j < ls.length), j < k + 1 → ∀ i (hi : i < ls[j].length), ls[j][i].cl = (j : Int) := fun j h hjk i' hi' => by
        by_cases q : j = k
        · subst q; exact hin i' hi' (by omega)
        · exact hall j h (by omega) i' hi'
      simp only [h1, e, h2, es, ew, go_sem]
      refine t_round (k + 1) ⟨by omega, hnx⟩ (by omega) (by simp) rfl rfl (by simp) rfl
  · have h1 : ¬ (k : Int) < (ls.length : Int) := by omega
    have ek : k = ls.length := by omega
    subst ek
    have H : Own ls := fun j h i hi => hall j h h i hi
    have hC := chain_merge ls H
    rw [← hS]
    generalize hL : mergeR ls = L at hM hn hf hC
    have hz := cntR_zero ls.length
    simp only [h1, go_sem]
    refine t_call_intro (hM) ?_
    simp only [bne_self_eq_false, go_sem]
    refine t_gate_intro (by simp; omega) ?_
    simp only [go_sem]
    refine t_loopO_intro [] (fun k : Nat => k ≤ L.length) (fun k => L.length - k) 0 [2, 8, 9, 10, 57, 58, 59, 60, 61, 62, 63, 64, 65, 66, 67, 68, 69, 70, 71, 72, 73, 74, 75, 76, 77, 78, 79, 80, 81, 82, 83, 84, 85, 86, 87, 88, 89, 90, 91, 92, 93, 94, 95, 96, 97, 98, 99, 100, 101, 102, 103, 104, 105, 106, 107, 108, 109, 110, 111, 112, 113, 114, 115, 116, 117, 118, 119, 120, 121, 122, 123, 124, 125, 126, 127, 128, 129, 130, 131, 132, 133, 134, 135, 136, 137, 138, 139] (fun k => [(8, .a (.int .i64 k))]) (fun k => []) (fun k => [⟨3, 1, cntR ls.length (L.take k), true⟩]) (by omega) (by simp) (by first | (simp; done) | simp [hz]) (by first | (simp; done) | simp [hz]) (by first | (simp; done) | simp [hz]) (fun k => by first | (simp; done) | simp [hz]) (fun k => by first | (simp; done) | simp [hz]) (fun k => by first | (simp; done) | simp [hz]) ?_
    intro k hk st_ hst
    simp only [go_sem] at hst
    subst hst
    by_cases hlt : k < L.length
    · have h3 : (k : Int) < (L.length : Int) := by omega
      have e := getD_map Req.row L k hlt
      have er := rowr L[k]
      have ew := wrap1 k L.length hlt (by omega)
      obtain ⟨c, hc, hcl, ⟨hk', hr⟩, hfair⟩ := hC k hlt
      have fL : L[k].fits := hf _ (List.getElem_mem hlt)
      have sm := rsame_den L[k] L[k] fL
      rw [reqEq_refl] at sm
      have hcs := cntR_set ls.length (L.take k) L[k] c hc hcl
      have hcn : cnt (L.take k ++ [L[k]]) c = cnt (L.take k) c + 1 := by rw [cnt_snoc, hcl, if_pos rfl]
      have hcap : ∀ j, cnt (L.take k ++ [L[k]]) j ≤ 1000 := fun j => by
        have := List.countP_le_length (p := fun r => r.cl == (j : Int)) (l := L.take k ++ [L[k]])
        have l1 : (L.take k).length ≤ L.length := by rw [List.length_take]; omega
        rw [List.length_append, List.length_singleton] at this
        unfold cnt; omega
      have htk : L.take k ++ [L[k]] = L.take (k + 1) := (List.take_succ_eq_append_getElem hlt).symm
      have e1 := cntR_get ls.length (L.take k) c hc
      have e2 := getD_ls ls c hc
      have e3 := getD_map Req.row ls[c] (cnt (L.take k) c) hk'
      rw [← hr] at e3
      have n1 : ¬ ((c : Int) < 0) := by omega
      have n2 : ¬ ((ls.length : Int) ≤ (c : Int)) := by omega
      have n3 : ¬ ((ls[c].length : Int) ≤ ((cnt (L.take k) c : Nat) : Int)) := by omega
      have p1 : (c : Int) < (ls.length : Int) := by omega
      have p2 : ((cnt (L.take k) c : Nat) : Int) < (ls[c].length : Int) := by omega
      have hl0 := cntR_len ls.length (L.take k)
      have ew3 : IntKind.i64.wrap (((cnt (L.take k) c : Nat) : Int) + 1) = ((cnt (L.take k) c + 1 : Nat) : Int) := wrap1 _ _ hk' (by have := g2 _ (List.getElem_mem hc); omega)
      rw [er] at e e3 sm
      simp only [h3, e, hcl, n1, n2, hl0, p1, e1, e2, n3, p2, hc, go_sem]
      rw [hcl] at e e3 sm
      simp only [e3, hl0, e1, e2, p1, p2, go_sem]
      refine t_call_intro (sm) ?_
      simp only [hl0, p1, e1, ew3, hc, hcs, htk, go_sem]
      rw [htk] at hfair hcap hcn
      generalize hA : L.take (k + 1) = A at hfair hcap hcn ⊢
      have hlA := cntR_len ls.length A
      refine t_loop_intro (fun i : Nat => i ≤ ls.length) (fun i => ls.length - i) 0 [2, 10, 112, 113, 114, 115, 116, 117, 118, 119, 120, 121, 122, 123, 124, 125, 126, 127, 128, 129, 130, 131, 132, 133, 134, 135, 136, 137, 138, 139] (fun i => [(10, .a (.int .i64 i))]) (Nat.zero_le _) (by simp) (fun i => by simp) rfl ?_
      intro i hi fr_ hfr
      simp only [go_sem] at hfr
      subst hfr
      by_cases hil : i < ls.length
      · have h2 : (i : Int) < (ls.length : Int) := by omega
        have ew2 := wrap1 i ls.length hil (by omega)
        have a1 := cntR_get ls.length A c hc
        have a2 := cntR_get ls.length A i hil
        have a3 := getD_ls ls i hil
        have ci := hcap i
        have ew4 : IntKind.i64.wrap (((cnt A i : Nat) : Int) + 1) = ((cnt A i + 1 : Nat) : Int) := by rw [IntKind.wrap_i64]; omega
        by_cases hg : cnt A i + 1 < cnt A c
        · have hg2 : ((cnt A i + 1 : Nat) : Int) < ((cnt A c : Nat) : Int) := by omega
          have hnf := hfair i hil hg
          rw [lenD_get ls i hil] at hnf
          have hg3 : ¬ ((cnt A i : Nat) : Int) < (ls[i].length : Int) := by omega
          simp only [hlA, h2, p1, hc, hil, a1, a2, a3, ew4, hg2, hg3, ew2, go_sem]
          refine t_round (i + 1) (by omega) (by omega) (by simp) rfl rfl (by simp) rfl
        · have hg2 : ¬ ((cnt A i + 1 : Nat) : Int) < ((cnt A c : Nat) : Int) := by omega
          simp only [hlA, h2, p1, hc, hil, a1, a2, a3, ew4, hg2, ew2, go_sem]
          refine t_round (i + 1) (by omega) (by omega) (by simp) rfl rfl (by simp) rfl
      · have h2 : ¬ (i : Int) < (ls.length : Int) := by omega
        simp only [hlA, h2, ew, go_sem]
        refine t_roundO (k + 1) (by omega) (by omega) (by first | (simp; done) | simp [hA]) (by first | (simp; done) | simp [hA]) (by first | (simp; done) | simp [hA]) (by first | (simp; done) | simp [hA]) (by first | (simp; done) | simp [hA])
    · have h3 : ¬ (k : Int) < (L.length : Int) := by omega
      simp only [h3, go_sem]
      refine t_call_intro (works_den) ?_
      simp only [go_sem]
      simp only [aresult, ares, go_sem]
end Go.Proofs.Ytemeiopghbpamaa
