/- Chapter 53: Same, Few, Valid, change, Diff and Update of the reference. -/
import Derived.Test.YtknmjfojlnajjaaDu
set_option linter.unusedSimpArgs false
set_option linter.unusedVariables false
namespace Go.Proofs.Ytknmjfojlnajjaa
open Go Ab Go.RowKit
set_option maxRecDepth 100000
attribute [local irreducible] awp aops aop asoft aeff aloop acall acallI acallT
attribute [local go_sem] Vl.row Pr.row

def sameT (a b : Tr) : Bool := decide (a.root = b.root) && decide (a.bs = b.bs)
theorem sameT_refl (a : Tr) : sameT a a = true := by simp [sameT]
theorem u64R_get (l : List Nat) (k : Nat) (h : k < l.length) : (l.map u64R).getD k [] = [.int .u64 (l[k] : Int)] := getD_map u64R l k h
set_option maxHeartbeats 2000000 in
theorem rsameT_den (a b : Tr) (ha : a.bs.length ≤ 1000000) (hb : b.bs.length ≤ 1000000) : PDen Try.prog 11 [.agg a.row, .agg b.row] (.a (.bool (sameT a b))) := by
  have ra : a.row = [.slice 1 (a.bs.map u64R), .int .u64 (a.root : Int)] := rfl
  have rb : b.row = [.slice 1 (b.bs.map u64R), .int .u64 (b.root : Int)] := rfl
  rw [ra, rb]
  refine den_of_body k_ref53_Same ⟨rfl, Nat.le_of_ble_eq_true rfl, thaw_intro ?_⟩
  unfold c_ref53_Same
  simp only [go_sem]
  by_cases hr : a.root = b.root
  rotate_left
  · have n1 : ((a.root : Int) != (b.root : Int)) = true := by simp; omega
    rw [show sameT a b = false by simp [sameT, hr]]
    simp only [n1, go_sem]
    simp only [aresult, ares, go_sem]
  have n1 : ((a.root : Int) != (b.root : Int)) = false := by simp; omega
  simp only [n1, go_sem]
  by_cases hl : a.bs.length = b.bs.length
  rotate_left
  · have n2 : ((a.bs.length : Int) != (b.bs.length : Int)) = true := by simp; omega
    rw [show sameT a b = false by
      have : ¬ a.bs = b.bs := fun e => hl (congrArg List.length e)
      simp [sameT, this]]
    simp only [n2, go_sem]
    simp only [aresult, ares, go_sem]
  have n2 : ((a.bs.length : Int) != (b.bs.length : Int)) = false := by simp; omega
  simp only [n2, go_sem]
  refine t_loop_intro (fun k : Nat => k ≤ a.bs.length ∧ (a.bs.take k = b.bs.take k)) (fun k => a.bs.length - k) 0 [4, 5, 20, 21, 22, 23, 24, 25, 26, 27, 28, 29, 30, 31, 32, 33, 34, 35, 36, 37] (fun k => [(5, .a (.int .i64 k))]) ⟨by omega, by simp⟩ (by simp) (fun k => by simp) rfl ?_
  intro k hk0 fr_ hfr
  have hk : k ≤ a.bs.length := hk0.1
  have hall := hk0.2
  clear hk0
  simp only [go_sem] at hfr
  subst hfr
  by_cases hlt : k < a.bs.length
  · have h1 : (k : Int) < (a.bs.length : Int) := by omega
    have h2 : (k : Int) < (b.bs.length : Int) := by omega
    have hkb : k < b.bs.length := by omega
    have e1 := u64R_get a.bs k hlt
    have e2 := u64R_get b.bs k hkb
    have ew := wrap1 k a.bs.length hlt (by omega)
    by_cases hx : a.bs[k] = b.bs[k]
    · have n3 : ((a.bs[k] : Int) != (b.bs[k] : Int)) = false := by simp; omega
      simp only [h1, h2, e1, e2, n3, ew, go_sem]
      refine t_round (k + 1) ⟨by omega, by rw [List.take_succ_eq_append_getElem hlt, List.take_succ_eq_append_getElem hkb, hall, hx]⟩ (by omega) (by simp) rfl rfl (by simp) rfl
    · have n3 : ((a.bs[k] : Int) != (b.bs[k] : Int)) = true := by simp; omega
      rw [show sameT a b = false by
        have : ¬ a.bs = b.bs := fun e => hx (by simp only [e])
        simp [sameT, this]]
      simp only [h1, h2, e1, e2, n3, go_sem]
      simp only [aresult, ares, go_sem]
  · have h1 : ¬ (k : Int) < (a.bs.length : Int) := by omega
    have e : a.bs = b.bs := by rw [List.take_of_length_le (by omega), List.take_of_length_le (by omega)] at hall; exact hall
    rw [show sameT a b = true by simp [sameT, hr, e]]
    simp only [h1, go_sem]
    simp only [aresult, ares, go_sem]
def fewP (p : Pr) : Bool := decide (p.key.size ≤ 200) && decide (p.v.s.size ≤ 200)
def fewL (l : List Pr) (n : Nat) : Bool := decide (l.length ≤ n) && l.all fewP
set_option maxHeartbeats 2000000 in
theorem few_den (l : List Pr) (n : Nat) (hl : l.length ≤ 9223372036854775807) : PDen Try.prog 9 [.a (.slice 4 (l.map Pr.row)), .a (.int .i64 n)] (.a (.bool (fewL l n))) := by
  refine den_of_body k_ref53_Few ⟨rfl, Nat.le_of_ble_eq_true rfl, thaw_intro ?_⟩
  unfold c_ref53_Few
  simp only [go_sem]
  by_cases hn : l.length ≤ n
  rotate_left
  · have q : (n : Int) < (l.length : Int) := by omega
    rw [show fewL l n = false by simp [fewL]; omega]
    simp only [q, go_sem]
    simp only [aresult, ares, go_sem]
  have q : ¬ (n : Int) < (l.length : Int) := by omega
  simp only [q, go_sem]
  refine t_loop_intro (fun k : Nat => k ≤ l.length ∧ ((l.take k).all fewP = true)) (fun k => l.length - k) 0 [4, 5, 10, 11, 12, 13, 14, 15, 16, 17, 18, 19, 20, 21, 22, 23, 24, 25, 26, 27, 28, 29, 30, 31, 32] (fun k => [(5, .a (.int .i64 k))]) ⟨by omega, by simp⟩ (by simp) (fun k => by simp) rfl ?_
  intro k hk0 fr_ hfr
  have hk : k ≤ l.length := hk0.1
  have hall := hk0.2
  clear hk0
  simp only [go_sem] at hfr
  subst hfr
  by_cases hlt : k < l.length
  · have h1 : (k : Int) < (l.length : Int) := by omega
    have e := getD_map Pr.row l k hlt
    have ew := wrap1 k l.length hlt hl
    have es : (l.take (k + 1)).all fewP = ((l.take k).all fewP && fewP l[k]) := by
      rw [List.take_succ_eq_append_getElem hlt, List.all_append]; simp
    have ef : fewP l[k] = false → fewL l n = false := fun hx => by
      unfold fewL
      rw [Bool.and_eq_false_iff]; right
      rw [List.all_eq_false]
      exact ⟨l[k], List.getElem_mem hlt, by rw [hx]; simp⟩
    by_cases h2 : l[k].key.size ≤ 200
    rotate_left
    · have q2 : (200 : Int) < (l[k].key.size : Int) := by omega
      rw [ef (by simp [fewP, h2])]
      simp only [h1, e, q2, go_sem]
      simp only [aresult, ares, go_sem]
    have q2 : ¬ (200 : Int) < (l[k].key.size : Int) := by omega
    by_cases h3 : l[k].v.s.size ≤ 200
    rotate_left
    · have q3 : (200 : Int) < (l[k].v.s.size : Int) := by omega
      rw [ef (by simp [fewP, h3])]
      simp only [h1, e, q2, q3, go_sem]
      simp only [aresult, ares, go_sem]
    have q3 : ¬ (200 : Int) < (l[k].v.s.size : Int) := by omega
    simp only [h1, e, q2, q3, ew, go_sem]
    refine t_round (k + 1) ⟨by omega, by rw [es, hall]; simp [fewP, h2, h3]⟩ (by omega) (by simp) rfl rfl (by simp) rfl
  · have h1 : ¬ (k : Int) < (l.length : Int) := by omega
    rw [List.take_of_length_le (by omega)] at hall
    rw [show fewL l n = true by simp only [fewL, hall, Bool.and_true]; exact decide_eq_true hn]
    simp only [h1, go_sem]
    simp only [aresult, ares, go_sem]
set_option maxHeartbeats 2000000 in
theorem rvalid_den (t : Tr) (hl : t.bs.length ≤ 1000000) (hf : t.fit) : PDen Try.prog 38 [.agg t.row] (.a (.bool (vT t))) := by
  have hroot := rroot_den t hl hf
  have ra : t.row = [.slice 1 (t.bs.map u64R), .int .u64 (t.root : Int)] := rfl
  rw [ra] at hroot ⊢
  unfold vT
  generalize rootN t.bs = R at hroot ⊢
  refine den_of_body k_ref53_Valid ⟨rfl, Nat.le_of_ble_eq_true rfl, thaw_intro ?_⟩
  unfold c_ref53_Valid
  simp only [go_sem]
  by_cases h : t.bs.length = 64
  · have q : ((t.bs.length : Int) == 64) = true := by simp; omega
    rw [show (decide (t.bs.length = 64) && (t.root == R)) = ((t.root : Int) == (R : Int)) by
      rw [decide_eq_true h, Bool.true_and]
      exact Bool.eq_iff_iff.2 (by simp; omega)]
    simp only [q, go_sem]
    refine t_call_intro (hroot) ?_
    simp only [go_sem]
    simp only [aresult, ares, go_sem]
  · have q : ((t.bs.length : Int) == 64) = false := by simp; omega
    rw [decide_eq_false h, Bool.false_and]
    simp only [q, go_sem]
    simp only [aresult, ares, go_sem]
theorem change_den (p : Pr) (h : p.few) : PDen Try.prog 41 [.agg p.row] (.a (.int .u64 (chg p : Nat))) := by
  have hp := rpair_den p h
  unfold chg
  generalize pairN p = X at hp ⊢
  refine den_of_body k_ref53_change ⟨rfl, Nat.le_of_ble_eq_true rfl, thaw_intro ?_⟩
  unfold c_ref53_change
  simp only [go_sem]
  by_cases hk : p.v.kind = 0
  · have q : (p.v.kind == 0) = true := by simp [hk]
    rw [if_pos hk]
    simp only [q, go_sem]
    simp only [aresult, ares, go_sem]
    rfl
  · have q : (p.v.kind == 0) = false := by simp [hk]
    rw [if_neg hk]
    simp only [q, go_sem]
    refine t_call_intro (hp) ?_
    simp only [go_sem]
    simp only [aresult, ares, go_sem]
def iR (n : Nat) : List Atom := [.int .i64 (n : Int)]
def dfR (a b : List Nat) (k : Nat) : List (List Atom) := (diffB a b k).map iR
theorem dfR_zero (a b : List Nat) : dfR a b 0 = [] := rfl
theorem dfR_len (a b : List Nat) (k : Nat) : (dfR a b k).length ≤ k := by unfold dfR; rw [List.length_map]; exact diffB_len a b k
theorem dfR_yes (a b : List Nat) (k : Nat) (h : a.getD k 0 ≠ b.getD k 0) : dfR a b k ++ [[.int .i64 (k : Int)]] = dfR a b (k + 1) := by
  unfold dfR
  rw [show diffB a b (k + 1) = diffB a b k ++ [k] from if_pos h, List.map_append]; rfl
theorem dfR_no (a b : List Nat) (k : Nat) (h : ¬ a.getD k 0 ≠ b.getD k 0) : dfR a b (k + 1) = dfR a b k := by
  unfold dfR
  rw [show diffB a b (k + 1) = diffB a b k from if_neg h]
set_option maxHeartbeats 2000000 in
theorem rdiff_no (a b : Tr) (ha : a.bs.length ≤ 1000000) (hb : b.bs.length ≤ 1000000) (fa : a.fit) (fb : b.fit) (h : (vT a && vT b) = false) : PDen Try.prog 19 [.agg a.row, .agg b.row] (.a .nils) := by
  have va := rvalid_den a ha fa
  have vb := rvalid_den b hb fb
  have ra : a.row = [.slice 1 (a.bs.map u64R), .int .u64 (a.root : Int)] := rfl
  have rb : b.row = [.slice 1 (b.bs.map u64R), .int .u64 (b.root : Int)] := rfl
  rw [ra] at va ⊢
  rw [rb] at vb ⊢
  generalize vT a = x at va h
  generalize vT b = y at vb h
  refine den_of_body k_ref53_Diff ⟨rfl, Nat.le_of_ble_eq_true rfl, thaw_intro ?_⟩
  unfold c_ref53_Diff
  simp only [go_sem]
  refine t_call_intro (va) ?_
  cases x with
  | false =>
    simp only [go_sem]
    simp only [aresult, ares, go_sem]
  | true =>
    cases y with
    | false =>
      simp only [go_sem]
      refine t_call_intro (vb) ?_
      simp only [go_sem]
      simp only [aresult, ares, go_sem]
    | true => cases h
set_option maxHeartbeats 2000000 in
theorem rdiff_yes (a b : Tr) (ha : a.bs.length = 64) (hb : b.bs.length = 64) (fa : a.fit) (fb : b.fit) (h : (vT a && vT b) = true) : PDen Try.prog 19 [.agg a.row, .agg b.row] (.a (.slice 1 ((diffB a.bs b.bs 64).map iR))) := by
  have va := rvalid_den a (by omega) fa
  have vb := rvalid_den b (by omega) fb
  have ra : a.row = [.slice 1 (a.bs.map u64R), .int .u64 (a.root : Int)] := rfl
  have rb : b.row = [.slice 1 (b.bs.map u64R), .int .u64 (b.root : Int)] := rfl
  rw [Bool.and_eq_true] at h
  rw [ra, h.1] at va
  rw [rb, h.2] at vb
  rw [ra, rb]
  have hz := dfR_zero a.bs b.bs
  refine den_of_body k_ref53_Diff ⟨rfl, Nat.le_of_ble_eq_true rfl, thaw_intro ?_⟩
  unfold c_ref53_Diff
  simp only [go_sem]
  refine t_call_intro (va) ?_
  simp only [go_sem]
  refine t_call_intro (vb) ?_
  simp only [go_sem]
  refine t_loopO_intro [.slot 5 3 1] (fun k : Nat => k ≤ 64) (fun k => 64 - k) 0 [5, 6, 15, 16, 17, 18, 19, 20, 21, 22, 23, 24, 25, 26, 27, 28, 29, 30, 31, 32, 33] (fun k => [(5, .own 0), (6, .a (.int .i64 k))]) (fun k => [[.a (.slice 1 (a.bs.map u64R)), .a (.int .u64 (a.root : Int))], [.a (.slice 1 (b.bs.map u64R)), .a (.int .u64 (b.root : Int))]]) (fun k => [⟨3, 1, dfR a.bs b.bs k, false⟩]) (by omega) (by simp) (by first | (simp; done) | simp [hz]) (by first | (simp; done) | simp [hz]) (by first | (simp; done) | simp [hz]) (fun k => by first | (simp; done) | simp [hz]) (fun k => by first | (simp; done) | simp [hz]) (fun k => by first | (simp; done) | simp [hz]) ?_
  intro k hk st_ hst
  simp only [go_sem] at hst
  subst hst
  by_cases hlt : k < 64
  · have q : (k : Int) < 64 := by omega
    have h1 : (k : Int) < (a.bs.length : Int) := by omega
    have h2 : (k : Int) < (b.bs.length : Int) := by omega
    have hka : k < a.bs.length := by omega
    have hkb : k < b.bs.length := by omega
    have e1 := u64R_get a.bs k hka
    have e2 := u64R_get b.bs k hkb
    have ew := wrap1 k 64 hlt (by omega)
    have hln := dfR_len a.bs b.bs k
    have g1 : a.bs.getD k 0 = a.bs[k] := by simp [hka]
    have g2 : b.bs.getD k 0 = b.bs[k] := by simp [hkb]
    by_cases hx : a.bs[k] = b.bs[k]
    · have n3 : ((a.bs[k] : Int) != (b.bs[k] : Int)) = false := by simp; omega
      have es := dfR_no a.bs b.bs k (by rw [g1, g2]; simp [hx])
      simp only [q, h1, h2, e1, e2, n3, ew, go_sem]
      refine t_roundO (k + 1) (by omega) (by omega) (by first | (simp; done) | simp [es]) (by first | (simp; done) | simp [es]) (by first | (simp; done) | simp [es]) (by first | (simp; done) | simp [es]) (by first | (simp; done) | simp [es])
    · have n3 : ((a.bs[k] : Int) != (b.bs[k] : Int)) = true := by simp; omega
      have es := dfR_yes a.bs b.bs k (by rw [g1, g2]; exact hx)
      simp only [q, h1, h2, e1, e2, n3, go_sem]
      refine t_gate_intro (by omega) ?_
      simp only [es, ew, go_sem]
      refine t_roundO (k + 1) (by omega) (by omega) (by simp) (by simp) (by simp) (by simp) (by simp)
  · have q : ¬ (k : Int) < 64 := by omega
    have ek : k = 64 := by omega
    subst ek
    simp only [q, go_sem]
    simp only [aresult, ares, go_sem]
    rfl
theorem rdiff_den (a b : Tr) (ha : a.bs.length ≤ 1000000) (hb : b.bs.length ≤ 1000000) (fa : a.fit) (fb : b.fit) : PDen Try.prog 19 [.agg a.row, .agg b.row] (.a (.slice 1 ((diffT a b).map iR))) := by
  unfold diffT
  cases h : vT a && vT b with
  | false =>
    rw [if_neg (by simp)]
    exact (rdiff_no a b ha hb fa fb h).le (VLe.a (RLe.nils 1))
  | true =>
    rw [if_pos rfl]
    have h' := h
    rw [Bool.and_eq_true] at h'
    have l1 : a.bs.length = 64 := by have := h'.1; unfold vT at this; rw [Bool.and_eq_true] at this; exact of_decide_eq_true this.1
    have l2 : b.bs.length = 64 := by have := h'.2; unfold vT at this; rw [Bool.and_eq_true] at this; exact of_decide_eq_true this.1
    exact rdiff_yes a b l1 l2 fa fb h
end Go.Proofs.Ytknmjfojlnajjaa
