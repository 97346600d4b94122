/- Chapter 53: the law DigestUpdates. -/
import Derived.Test.YtknmjfojlnajjaaTx
import Derived.Test.YtknmjfojlnajjaaDb
set_option linter.unusedSimpArgs false
set_option linter.unusedVariables false
namespace Go.Proofs.Ytknmjfojlnajjaa
open Go Ab Go.RowKit
set_option maxRecDepth 100000
attribute [local irreducible] awp aops aop asoft aeff aloop acall acallI acallT
attribute [local go_sem] Vl.row Pr.row

/-- The pairs with another key. -/
def oth (k : ByteArray) (l : List Pr) : List Pr := l.filter fun p => (fun q => !decide (q = k)) p.key
def oneB (o : Option Pr) (j : Nat) : Nat := match o with
  | none => 0
  | some p => bk [p] j
theorem bk_fnd (k : ByteArray) (j : Nat) : ∀ l : List Pr, Srt l → bk l j = bk (oth k l) j ^^^ oneB (fnd l k) j
  | [], _ => (Nat.xor_zero 0).symm
  | x :: xs, hs => by
    rw [srt_cons] at hs
    have ih := bk_fnd k j xs hs.2
    by_cases h : x.key = k
    · have e1 : fnd (x :: xs) k = some x := by simp only [fnd]; rw [if_pos h]
      have e2 : fnd xs k = none := by rw [← h]; exact fnd_lb hs.1
      have e3 : oth k (x :: xs) = oth k xs := by
        unfold oth
        rw [List.filter_cons_of_neg]; simp [h]
      rw [e2] at ih
      have ih : bk xs j = bk (oth k xs) j := ih.trans (Nat.xor_zero _)
      rw [e1, e3, bk_cons, ih, Nat.xor_comm]; rfl
    · have e1 : fnd (x :: xs) k = fnd xs k := by simp only [fnd]; rw [if_neg h]
      have e3 : oth k (x :: xs) = x :: oth k xs := by
        unfold oth
        rw [List.filter_cons_of_pos]; simp [h]
      rw [e1, e3, bk_cons, ih, bk_cons x (oth k xs), Nat.xor_assoc]
theorem fnd_one (w : Pr) (k : ByteArray) : fnd [w] k = if w.key = k then some w else none := by simp only [fnd]
theorem srt_one (w : Pr) : Srt [w] := List.pairwise_singleton ..
theorem ap_fnd {l : List Pr} (hl : Srt l) (w : Pr) (k : ByteArray) : fnd (apL l [w]) k = if w.key = k then wr w else fnd l k := by
  rw [(ap_spec hl (srt_one w)).2, fnd_one]
  split
  · cases fnd l k <;> rfl
  · cases fnd l k <;> rfl
theorem oth_ap {l : List Pr} (hl : Srt l) (w : Pr) : oth w.key (apL l [w]) = oth w.key l := by
  refine srt_ext _ _ (srt_filter (ap_spec hl (srt_one w)).1 _) (srt_filter hl _) fun k => ?_
  unfold oth
  rw [fnd_filter (fun q => !decide (q = w.key)), fnd_filter (fun q => !decide (q = w.key)), ap_fnd hl]
  by_cases h : w.key = k
  · rw [if_neg (by simp [h]), if_neg (by simp [h])]
  · rw [if_neg h]
/-- What a pair changes in a bucket. -/
def cb (p : Pr) (j : Nat) : Nat := if bktN p.key = j then chg p else 0
theorem one_wr (w : Pr) (j : Nat) : oneB (wr w) j = cb w j := by
  unfold wr cb chg
  by_cases h : w.v.kind = 0
  · rw [if_pos h, if_pos h]; show (0 : Nat) = _; split <;> rfl
  · rw [if_neg h, if_neg h]; exact bk_one w j
def oldP (l : List Pr) (w : Pr) : Pr := ⟨w.key, getP l w.key⟩
theorem one_old {l : List Pr} (hl : stateV l = true) (w : Pr) (j : Nat) : oneB (fnd l w.key) j = cb (oldP l w) j := by
  have hs := (state_iff l).1 hl
  unfold oldP cb
  rw [getP_fnd]
  cases h : fnd l w.key with
  | none =>
    show (0 : Nat) = if bktN w.key = j then chg ⟨w.key, vl0⟩ else 0
    rw [show chg ⟨w.key, vl0⟩ = 0 from if_pos rfl]
    exact (ite_self _).symm
  | some p =>
    obtain ⟨h1, h2⟩ := fnd_mem h
    have hk := (hs.2 p h1).2.2
    have e : (⟨w.key, p.v⟩ : Pr) = p := by rw [← h2]
    show bk [p] j = if bktN w.key = j then (if p.v.kind = 0 then 0 else pairN ⟨w.key, p.v⟩) else 0
    rw [if_neg hk, e, bk_one, h2]
theorem bk_ap {l : List Pr} (hl : stateV l = true) (w : Pr) (j : Nat) : bk (apL l [w]) j = (bk l j ^^^ cb (oldP l w) j) ^^^ cb w j := by
  have hs := ((state_iff l).1 hl).1
  rw [bk_fnd w.key j (apL l [w]) (ap_spec hs (srt_one w)).1, oth_ap hs, ap_fnd hs, if_pos rfl, one_wr, bk_fnd w.key j l hs, one_old hl, Nat.xor_assoc (bk (oth w.key l) j), Nat.xor_self, Nat.xor_zero]
theorem bks_getD (l : List Pr) (j : Nat) (h : j < 64) : (bks l).getD j 0 = bk l j := by
  rw [List.getD_eq_getElem?_getD, List.getElem?_eq_getElem (by rw [bks_len]; exact h), bks_get l j h]; rfl
theorem updB_ap {l : List Pr} (hl : stateV l = true) (w : Pr) : updB (bks l) (bktN w.key) (chg (oldP l w)) (chg w) = bks (apL l [w]) := by
  have e : updB (bks l) (bktN w.key) (chg (oldP l w)) (chg w) = (bks l).set (bktN w.key) ((bk l (bktN w.key) ^^^ chg (oldP l w)) ^^^ chg w) := by
    unfold updB
    rw [bks_getD l _ (bktN_lt w.key)]
  rw [e]
  refine List.ext_getElem (by rw [List.length_set, bks_len, bks_len]) fun j h1 h2 => ?_
  rw [bks_len] at h2
  rw [List.getElem_set, bks_get l j h2, bks_get _ j h2, bk_ap hl]
  unfold cb
  show (if bktN w.key = j then _ else _) = (bk l j ^^^ if bktN w.key = j then chg (oldP l w) else 0) ^^^ _
  split
  · rename_i e; rw [e]
  · rw [Nat.xor_zero, Nat.xor_zero]
theorem treeT_up {l : List Pr} (hl : stateV l = true) {w : Pr} (hw : writesGo none [w] = true) : updT (treeT l) (oldP l w) w = (treeT (apL l [w]), 0) := by
  have hs := (state_iff l).1 hl
  have h2 := ((writes_iff0 _).1 hw).2 w (by simp)
  have h3 : valV (oldP l w).v = true := by
    show valV (getP l w.key) = true
    rw [getP_fnd]
    cases h : fnd l w.key with
    | none => exact vl0_ok
    | some p => exact (hs.2 p (fnd_mem h).1).2.1
  have h4 : okU (treeT l) (oldP l w) w = true := by
    unfold okU
    rw [vT_tree, h3, h2.2, show (oldP l w).key = w.key from rfl, h2.1]; simp
  unfold updT
  rw [if_pos h4]
  have e := updB_ap hl w
  show (Tr.mk (updB (bks l) (bktN w.key) (chg (oldP l w)) (chg w)) (rootN (updB (bks l) (bktN w.key) (chg (oldP l w)) (chg w))), (0 : Int)) = _
  rw [e]; rfl
theorem diffB_one (a b : List Nat) (A : Nat) (h : ∀ j, j ≠ A → a.getD j 0 = b.getD j 0) : ∀ k, diffB a b k = if A < k ∧ a.getD A 0 ≠ b.getD A 0 then [A] else []
  | 0 => by rw [if_neg (by omega)]; rfl
  | k + 1 => by
    unfold diffB
    rw [diffB_one a b A h k]
    by_cases hk : k = A
    · subst hk
      rw [if_neg (by omega : ¬ (k < k ∧ _))]
      by_cases hd : a.getD k 0 ≠ b.getD k 0
      · rw [if_pos hd, if_pos ⟨by omega, hd⟩]; rfl
      · rw [if_neg hd, if_neg (fun q => hd q.2)]
    · rw [if_neg (by rw [h k hk]; simp)]
      by_cases hd : a.getD A 0 ≠ b.getD A 0
      · by_cases hA : A < k
        · rw [if_pos ⟨hA, hd⟩, if_pos ⟨by omega, hd⟩]
        · rw [if_neg (fun q => hA q.1), if_neg (fun q => by omega)]
      · rw [if_neg (fun q => hd q.2), if_neg (fun q => hd q.2)]
theorem bk_else {l : List Pr} (hl : stateV l = true) (w : Pr) (j : Nat) (h : j ≠ bktN w.key) : bk (apL l [w]) j = bk l j := by
  rw [bk_ap hl]
  have e1 : cb (oldP l w) j = 0 := if_neg (fun e => h e.symm)
  have e2 : cb w j = 0 := if_neg (fun e => h e.symm)
  rw [e1, e2, Nat.xor_zero, Nat.xor_zero]
theorem diffT_ap {l : List Pr} (hl : stateV l = true) (w : Pr) : diffT (treeT l) (treeT (apL l [w])) = [] ∨ (diffT (treeT l) (treeT (apL l [w])) = [bktN w.key] ∧ (getP l w.key) ≠ w.v) := by
  have e : diffT (treeT l) (treeT (apL l [w])) = diffB (bks l) (bks (apL l [w])) 64 := by
    unfold diffT
    rw [vT_tree, vT_tree]; rfl
  have h1 : ∀ j, j ≠ bktN w.key → (bks l).getD j 0 = (bks (apL l [w])).getD j 0 := fun j hj => by
    by_cases h : j < 64
    · rw [bks_getD l j h, bks_getD _ j h, bk_else hl w j hj]
    · rw [List.getD_eq_getElem?_getD, List.getD_eq_getElem?_getD, List.getElem?_eq_none (by rw [bks_len]; omega), List.getElem?_eq_none (by rw [bks_len]; omega)]
  rw [e, diffB_one _ _ _ h1]
  by_cases h : bktN w.key < 64 ∧ (bks l).getD (bktN w.key) 0 ≠ (bks (apL l [w])).getD (bktN w.key) 0
  · rw [if_pos h]
    refine .inr ⟨rfl, fun q => h.2 ?_⟩
    rw [bks_getD l _ h.1, bks_getD _ _ h.1, bk_ap hl]
    have : oldP l w = w := by unfold oldP; rw [q]
    rw [this, Nat.xor_assoc, Nat.xor_self, Nat.xor_zero]
  · rw [if_neg h]; exact .inl rfl
theorem ap_len1 (l : List Pr) (w : Pr) : (apL l [w]).length ≤ l.length + 1 := mrg_len _ l [w] (Nat.le_refl _)
theorem ap_few {l : List Pr} {w : Pr} (hl : stateV l = true) (f : ∀ p ∈ l, p.few) (g : w.few) : ∀ p ∈ apL l [w], p.few := fun p hp => by
  rcases ap_mem ((state_iff l).1 hl).1 (srt_one w) hp with h | ⟨h, _⟩
  · exact f p h
  · rw [List.mem_singleton.1 h]; exact g
theorem old_few {l : List Pr} {w : Pr} (f : ∀ p ∈ l, p.few) (g : w.few) : (oldP l w).few := by
  unfold oldP
  rw [getP_fnd]
  cases h : fnd l w.key with
  | none => exact ⟨g.ks, by show 0 ≤ 1000000; decide, by show -Cw.M63 ≤ 0; simp [Cw.M63], by show 0 < Cw.M63; simp [Cw.M63]⟩
  | some p =>
    have hp := f p (fnd_mem h).1
    exact ⟨g.ks, hp.vs, hp.lo, hp.hi⟩
theorem few_fit {l : List Pr} (f : ∀ p ∈ l, p.few) : ∀ p ∈ l, p.fit := fun p hp => ⟨by have := (f p hp).ks; omega, by have := (f p hp).vs; omega⟩
set_option maxHeartbeats 8000000 in
theorem DigestUpdates_den (l : List Pr) (hl : Prs.arg l) (w : Pr) (hw : w.arg) : PDen Try.prog 8 [.a (.slice 4 (l.map Pr.row)), .agg w.row] (.a (.bool true)) := by
  have d0 := few_den l 12 hl.len
  change PDen _ _ [_, .a (.int .i64 12)] _ at d0
  have d1 := few_den [w] 1 (by show 1 ≤ 9223372036854775807; decide)
  change PDen _ _ [.a (.slice 4 [w.row]), .a (.int .i64 1)] _ at d1
  rw [pr_row] at d1
  rw [pr_row w]
  refine den_of_body k_law53_DigestUpdates ⟨rfl, Nat.le_of_ble_eq_true rfl, thaw_intro ?_⟩
  unfold c_law53_DigestUpdates
  simp only [go_sem]
  refine t_call_intro (d0) ?_
  cases hf : fewL l 12 with
  | false =>
    simp only [go_sem]
    refine t_call_intro (lives_den) ?_
    simp only [go_sem]
    simp only [aresult, ares, go_sem]
  | true =>
    obtain ⟨f1, f2⟩ := few_of hf hl.all
    simp only [go_sem]
    refine t_call_intro (d1) ?_
    cases hg : fewL [w] 1 with
    | false =>
      simp only [go_sem]
      refine t_call_intro (lives_den) ?_
      simp only [go_sem]
      simp only [aresult, ares, go_sem]
    | true =>
      have gw := (few_of hg (fun p hp => by rw [List.mem_singleton.1 hp]; exact hw)).2 w (by simp)
      have fl := few_fit f2
      have fw : ∀ p ∈ [w], p.fit := few_fit fun p hp => by rw [List.mem_singleton.1 hp]; exact gw
      have n1 : ((1 : Int) != 0) = true := by decide
      have n0 : ((0 : Int) != 0) = false := by decide
      have e0 : ((0 : Int) == 0) = true := by decide
      cases hv : (stateV l && writesGo none [w]) with
      | false =>
        have a1 := apply_no l [w] (by omega) (by show 1 ≤ 1048576; decide) fl fw hv
        change PDen _ _ [_, .a (.slice 4 [w.row])] _ at a1
        rw [pr_row] at a1
        simp only [go_sem]
        refine t_call_intro (a1) ?_
        simp only [n1, go_sem]
        refine t_call_intro (lives_den) ?_
        simp only [go_sem]
        simp only [aresult, ares, go_sem]
      | true =>
        rw [Bool.and_eq_true] at hv
        obtain ⟨h1, h2⟩ := hv
        have a1 := apply_ok l [w] (by omega) (by show 1 ≤ 1048576; decide) fl fw h1 h2
        change PDen _ _ [_, .a (.slice 4 [w.row])] _ at a1
        rw [pr_row] at a1
        have gd := get_den l (by omega) w.key
        rw [vl_row] at gd
        have td := tree_den l (by omega) f2
        have ud := upd_den (treeT l) (oldP l w) w (by rw [treeT_len]; decide) (treeT_fit l) (old_few f2 gw) gw
        rw [treeT_up h1 h2] at ud
        have dd := diff_den (treeT l) (treeT (apL l [w])) (by rw [treeT_len]; decide) (by rw [treeT_len]; decide)
        have hln := ap_len1 l w
        have tm := tree_den (apL l [w]) (by omega) (ap_few h1 f2 gw)
        have ds := rsameT_den (treeT (apL l [w])) (treeT (apL l [w])) (by rw [treeT_len]; decide) (by rw [treeT_len]; decide)
        rw [sameT_refl] at ds
        have bd := bucket_den w.key (by have := gw.ks; omega)
        have hD := diffT_ap h1 w
        unfold trA at ud
        have eo : (oldP l w).row = [.str w.key, .int .i64 (getP l w.key).kind, .int .i64 (getP l w.key).n, .str (getP l w.key).s] := rfl
        rw [eo, pr_row w, tr_row (treeT l), tr_row (treeT (apL l [w]))] at ud
        simp only [] at ud
        rw [tr_row (treeT l)] at td
        rw [tr_row (treeT l), tr_row (treeT (apL l [w]))] at dd
        rw [tr_row (treeT (apL l [w]))] at tm ds
        generalize treeT l = T1 at *
        generalize treeT (apL l [w]) = T2 at *
        simp only [go_sem]
        refine t_call_intro (a1) ?_
        simp only [n0, go_sem]
        refine t_call_intro (gd) ?_
        simp only [go_sem]
        refine t_call_intro (td) ?_
        simp only [go_sem]
        refine t_call_intro (ud) ?_
        simp only [go_sem]
        refine t_call_intro (dd) ?_
        simp only [e0, go_sem]
        refine t_call_intro (tm) ?_
        simp only [go_sem]
        refine t_call_intro (ds) ?_
        generalize diffT T1 T2 = D at *
        have l1 : (((0 : Nat) : Int) ≤ 1) := by decide
        have l2 : (((1 : Nat) : Int) ≤ 1) := by decide
        have l3 : (((0 : Nat) : Int) == 0) = true := by decide
        have l4 : (((1 : Nat) : Int) == 0) = false := by decide
        rcases hD with hD | ⟨hD, hne⟩
        · subst hD
          simp only [l1, l3, go_sem]
          first | refine t_case_dec (fun h0 => ?_) (fun h0 => ?_) | refine t_case_ndec (fun h0 => ?_) (fun h0 => ?_) | refine t_case_eqI (fun h0 => ?_) (fun h0 => ?_) | refine t_case_neI (fun h0 => ?_) (fun h0 => ?_) | refine t_case_not (fun h0 => ?_) (fun h0 => ?_) | refine t_case_intro (fun h0 => ?_) (fun h0 => ?_)
          · simp only [l3, go_sem]
            refine t_call_intro (lives_den) ?_
            simp only [go_sem]
            simp only [aresult, ares, go_sem]
          · simp only [l3, go_sem]
            refine t_call_intro (lives_den) ?_
            simp only [go_sem]
            simp only [aresult, ares, go_sem]
        · subst hD
          have hv : ((getP l w.key).kind == w.v.kind && ((getP l w.key).n == w.v.n && ((getP l w.key).s.toList == w.v.s.toList && true))) = false := by
            rw [Bool.eq_false_iff]
            intro q
            simp only [Bool.and_true, Bool.and_eq_true, beq_iff_eq] at q
            apply hne
            obtain ⟨q1, q2, q3⟩ := q
            have q3 := ba_ext q3
            cases hg : getP l w.key
            cases hw : w.v
            rw [hg, hw] at q1 q2 q3
            simp only at q1 q2 q3
            rw [q1, q2, q3]
          have e1 : iR (bktN w.key) = [.int .i64 ((bktN w.key : Nat) : Int)] := rfl
          have e2 : (((bktN w.key : Nat) : Int) == ((bktN w.key : Nat) : Int)) = true := by simp
          simp only [l2, l4, go_sem]
          refine t_gate_intro (by decide) ?_
          simp only [e1, go_sem]
          refine t_call_intro (bd) ?_
          simp only [e2, hv, go_sem]
          refine t_call_intro (lives_den) ?_
          simp only [go_sem]
          simp only [aresult, ares, go_sem]
end Go.Proofs.Ytknmjfojlnajjaa
