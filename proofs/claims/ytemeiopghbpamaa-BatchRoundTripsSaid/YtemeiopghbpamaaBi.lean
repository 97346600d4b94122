/- Copies of requests; lists that are merged, cut. -/
import Derived.Test.YtemeiopghbpamaaBf
set_option linter.unusedSimpArgs false
set_option linter.unusedVariables false
namespace Go.Proofs.Ytemeiopghbpamaa
open Go Ab Go.RowKit
attribute [local irreducible] awp aops aop asoft aeff aloop acall acallI acallT
attribute [local go_sem] Vl.row sRow

set_option maxRecDepth 100000 in
set_option maxHeartbeats 400000 in
theorem clVals_den (l : List Vl) (hl : l.length * 32 ≤ 140737488351232) : PDen Try.prog 43 [.a (.slice 3 (l.map Vl.row))] (.a (.slice 3 (l.map Vl.row))) := by
  refine PDen.nn ?_ fun h0 => ?_
  · refine den_of_body k_slices_Clone_api_Value_api_Value ⟨rfl, Nat.le_of_ble_eq_true rfl, thaw_intro ?_⟩
    unfold c_slices_Clone_api_Value_api_Value
    simp only [go_sem]
    refine t_gate_intro (by simp; omega) ?_
    simp only [go_sem]
    simp only [aresult, ares, go_sem]
  · have h1 : l = [] := by simpa using h0
    subst h1
    refine PDen.resA (x := .nils) ?_ (RLe.nils 3)
    refine den_of_body k_slices_Clone_api_Value_api_Value ⟨rfl, Nat.le_of_ble_eq_true rfl, thaw_intro ?_⟩
    unfold c_slices_Clone_api_Value_api_Value
    simp only [go_sem]
    simp only [aresult, ares, go_sem]
set_option maxRecDepth 100000 in
set_option maxHeartbeats 400000 in
theorem clStrs_den (l : List ByteArray) (hl : l.length * 16 ≤ 140737488351232) : PDen Try.prog 44 [.a (.slice 1 (l.map sRow))] (.a (.slice 1 (l.map sRow))) := by
  refine PDen.nn ?_ fun h0 => ?_
  · refine den_of_body k_slices_Clone_string_string ⟨rfl, Nat.le_of_ble_eq_true rfl, thaw_intro ?_⟩
    unfold c_slices_Clone_string_string
    simp only [go_sem]
    refine t_gate_intro (by simp; omega) ?_
    simp only [go_sem]
    simp only [aresult, ares, go_sem]
  · have h1 : l = [] := by simpa using h0
    subst h1
    refine PDen.resA (x := .nils) ?_ (RLe.nils 1)
    refine den_of_body k_slices_Clone_string_string ⟨rfl, Nat.le_of_ble_eq_true rfl, thaw_intro ?_⟩
    unfold c_slices_Clone_string_string
    simp only [go_sem]
    simp only [aresult, ares, go_sem]
/-- No longer than what can be in memory. -/
structure Req.bulk (r : Req) : Prop where
  args : r.args.length * 32 ≤ 140737488351232
  rd : r.rd.length * 16 ≤ 140737488351232
  wt : r.wt.length * 16 ≤ 140737488351232
theorem rowr (r : Req) : r.row = [.int .i64 r.cl, .int .i64 r.sq, .str r.pr, .slice 3 (r.args.map Vl.row), .bool r.dc, .bool r.al, .slice 1 (r.rd.map sRow), .slice 1 (r.wt.map sRow)] := rfl
set_option maxRecDepth 100000 in
set_option maxHeartbeats 1000000 in
theorem clone_den (r : Req) (h : r.bulk) : PDen Try.prog 18 [.agg r.row] (.agg r.row) := by
  rw [rowr]
  refine den_of_body k_batch_clone ⟨rfl, Nat.le_of_ble_eq_true rfl, thaw_intro ?_⟩
  unfold c_batch_clone
  simp only [go_sem]
  refine t_call_intro (clVals_den r.args h.args) ?_
  simp only [go_sem]
  refine t_call_intro (clStrs_den r.rd h.rd) ?_
  simp only [go_sem]
  refine t_call_intro (clStrs_den r.wt h.wt) ?_
  simp only [go_sem]
  simp only [aresult, ares, go_sem]
def lsRow (l : List Req) : List Atom := [.slice 8 (l.map Req.row)]
/-- What one round takes of the first k inputs. -/
def mrow (ls : List (List Req)) (i k : Nat) : List Req := (ls.take k).filterMap (fun l => l[i]?)
def mcol (ls : List (List Req)) : Nat → List Req
  | 0 => []
  | i + 1 => mcol ls i ++ mrow ls i ls.length
def most (ls : List (List Req)) : Nat → Nat
  | 0 => 0
  | k + 1 => max (most ls k) (ls.getD k []).length
def mergeR (ls : List (List Req)) : List Req := mcol ls (most ls ls.length)
theorem mrow_zero (ls : List (List Req)) (i : Nat) : mrow ls i 0 = [] := rfl
theorem mrow_some (ls : List (List Req)) (i k : Nat) (hk : k < ls.length) (hi : i < ls[k].length) : mrow ls i (k + 1) = mrow ls i k ++ [ls[k][i]] := by
  unfold mrow
  rw [List.take_succ_eq_append_getElem hk, List.filterMap_append]
  simp [List.getElem?_eq_getElem hi]
theorem mrow_none (ls : List (List Req)) (i k : Nat) (hk : k < ls.length) (hi : ¬ i < ls[k].length) : mrow ls i (k + 1) = mrow ls i k := by
  unfold mrow
  rw [List.take_succ_eq_append_getElem hk, List.filterMap_append]
  simp [List.getElem?_eq_none (Nat.le_of_not_lt hi)]
theorem mrow_len (ls : List (List Req)) (i k : Nat) : (mrow ls i k).length ≤ k := Nat.le_trans (List.length_filterMap_le _ _) (List.length_take_le _ _)
theorem mcol_len (ls : List (List Req)) : ∀ i, (mcol ls i).length ≤ i * ls.length
  | 0 => Nat.zero_le _
  | i + 1 => by
    have h1 := mcol_len ls i
    have h2 := mrow_len ls i ls.length
    simp only [mcol, List.length_append]
    rw [Nat.succ_mul]; omega
theorem most_le (ls : List (List Req)) (m : Nat) (h : ∀ l ∈ ls, l.length ≤ m) : ∀ k, most ls k ≤ m
  | 0 => Nat.zero_le _
  | k + 1 => by
    have h1 := most_le ls m h k
    simp only [most]
    have : (ls.getD k []).length ≤ m := by
      rw [List.getD_eq_getElem?_getD]
      cases hk : ls[k]? with
      | none => exact Nat.zero_le _
      | some l => exact h l (List.mem_of_getElem? hk)
    omega
theorem most_step (ls : List (List Req)) (k : Nat) (h : k < ls.length) : most ls (k + 1) = max (most ls k) ls[k].length := by
  simp [most, List.getD_eq_getElem?_getD, h]
theorem imax (a b : Nat) : (if (b : Int) > (a : Int) then (b : Int) else (a : Int)) = ((max a b : Nat) : Int) := by split <;> omega
theorem getD_ls (ls : List (List Req)) (k : Nat) (h : k < ls.length) : (ls.map lsRow).getD k [] = [.slice 8 (ls[k].map Req.row)] := getD_map lsRow ls k h
theorem gate120 (n m : Nat) (h : n ≤ m) (hm : m ≤ 1000000) : (n + 1 + (n + 1) / 4 + 192) * 120 ≤ 281474976710656 ∧ n ≤ 9223372036854775806 := by omega
set_option maxRecDepth 100000 in
set_option maxHeartbeats 4000000 in
theorem merge_den (ls : List (List Req)) (h1 : ls.length ≤ 1000) (h2 : ∀ l ∈ ls, l.length ≤ 1000) (hb : ∀ l ∈ ls, ∀ r ∈ l, r.bulk) : PDen Try.prog 7 [.a (.slice 1 (ls.map lsRow))] (.a (.slice 8 ((mergeR ls).map Req.row))) := by
  have hm := most_le ls 1000 h2 ls.length
  refine den_of_body k_batch_Merge ⟨rfl, Nat.le_of_ble_eq_true rfl, thaw_intro ?_⟩
  unfold c_batch_Merge
  simp only [go_sem]
  refine t_loop_intro (fun k : Nat => k ≤ ls.length) (fun k => ls.length - k) 0 [3, 5, 11, 12, 13, 14, 15, 16, 17, 18, 19] (fun k => [(3, .a (.int .i64 (most ls k))), (11, .a (.int .i64 k))]) (by omega) (by first | (simp; done) | simp [most]) (fun k => by simp) rfl ?_
  intro k hk fr_ hfr
  simp only [go_sem] at hfr
  subst hfr
  by_cases hlt : k < ls.length
  · have q1 : (k : Int) < (ls.length : Int) := by omega
    have e := getD_ls ls k hlt
    have ew := wrap1 k ls.length hlt (by omega)
    have em : (if (ls[k].length : Int) > (most ls k : Int) then (ls[k].length : Int) else (most ls k : Int)) = ((most ls (k + 1) : Nat) : Int) := by rw [most_step ls k hlt]; exact imax _ _
    simp only [q1, e, em, ew, go_sem]
    refine t_round (k + 1) (by omega) (by omega) (by simp) rfl rfl (by simp) rfl
  · have q1 : ¬ (k : Int) < (ls.length : Int) := by omega
    have hke : k = ls.length := by omega
    subst hke
    simp only [q1, go_sem]
    unfold mergeR
    generalize hM : most ls ls.length = M at hm ⊢
    refine t_loopO_intro [.slot 6 31 8] (fun i : Nat => i ≤ M) (fun i => M - i) 0 [6, 7, 8, 21, 22, 23, 24, 25, 26, 27, 28, 29, 30, 31, 32, 33, 34, 35, 36, 37, 38, 39, 40, 41, 42, 43, 44, 45, 46, 47, 48] (fun i => [(6, .own 0), (21, .a (.int .i64 i))]) (fun i => []) (fun i => [⟨31, 8, (mcol ls i).map Req.row, false⟩]) (by omega) (by simp) (by first | (simp; done) | simp [mcol]) (by first | (simp; done) | simp [mcol]) (by first | (simp; done) | simp [mcol]) (fun i => by first | (simp; done) | simp [mcol]) (fun i => by first | (simp; done) | simp [mcol]) (fun i => by first | (simp; done) | simp [mcol]) ?_
    intro i hki st_ hst
    simp only [go_sem] at hst
    subst hst
    by_cases hlti : i < M
    · have q2 : (i : Int) < (M : Int) := by omega
      have ewi := wrap1 i M hlti (by omega)
      have hc := mcol_len ls i
      have hc2 : i * ls.length ≤ 1000 * 1000 := Nat.mul_le_mul (by omega) h1
      simp only [q2, go_sem]
      refine t_loopO_intro [] (fun j : Nat => j ≤ ls.length) (fun j => ls.length - j) 0 [6, 8, 26, 27, 28, 29, 30, 31, 32, 33, 34, 35, 36, 37, 38, 39, 40, 41, 42, 43, 44, 45, 46, 47] (fun j => [(6, .own 0), (26, .a (.int .i64 j))]) (fun j => []) (fun j => [⟨31, 8, (mcol ls i ++ mrow ls i j).map Req.row, false⟩]) (by omega) (by simp) (by first | (simp; done) | simp [mrow_zero]) (by first | (simp; done) | simp [mrow_zero]) (by first | (simp; done) | simp [mrow_zero]) (fun j => by first | (simp; done) | simp [mrow_zero]) (fun j => by first | (simp; done) | simp [mrow_zero]) (fun j => by first | (simp; done) | simp [mrow_zero]) ?_
      intro j hkj st_ hst
      simp only [go_sem] at hst
      subst hst
      by_cases hltj : j < ls.length
      · have q3 : (j : Int) < (ls.length : Int) := by omega
        have e := getD_ls ls j hltj
        have ewj := wrap1 j ls.length hltj (by omega)
        have hr := mrow_len ls i j
        by_cases hi : i < ls[j].length
        · have q4 : (i : Int) < (ls[j].length : Int) := by omega
          have e2 := getD_map Req.row ls[j] i hi
          have er := rowr ls[j][i]
          have hcl := clone_den ls[j][i] (hb _ (List.getElem_mem hltj) _ (List.getElem_mem hi))
          rw [er] at hcl e2
          have eo : (mcol ls i ++ mrow ls i j).map Req.row ++ [[.int .i64 ls[j][i].cl, .int .i64 ls[j][i].sq, .str ls[j][i].pr, .slice 3 (ls[j][i].args.map Vl.row), .bool ls[j][i].dc, .bool ls[j][i].al, .slice 1 (ls[j][i].rd.map sRow), .slice 1 (ls[j][i].wt.map sRow)]] = (mcol ls i ++ mrow ls i (j + 1)).map Req.row := by
            rw [mrow_some ls i j hltj hi, ← er]; simp
          simp only [q3, e, q4, e2, go_sem]
          refine t_call_intro (hcl) ?_
          simp only [go_sem]
          refine t_gate_intro (by omega) ?_
          simp only [eo, ewj, go_sem]
          refine t_roundO (j + 1) (by omega) (by omega) (by simp) (by simp) (by simp) (by simp) (by simp)
        · have q4 : ¬ (i : Int) < (ls[j].length : Int) := by omega
          have em := mrow_none ls i j hltj hi
          simp only [q3, e, q4, ewj, go_sem]
          refine t_roundO (j + 1) (by omega) (by omega) (by first | (simp; done) | simp [em]) (by first | (simp; done) | simp [em]) (by first | (simp; done) | simp [em]) (by first | (simp; done) | simp [em]) (by first | (simp; done) | simp [em])
      · have q3 : ¬ (j : Int) < (ls.length : Int) := by omega
        have hje : j = ls.length := by omega
        subst hje
        simp only [q3, ewi, go_sem]
        refine t_roundO (i + 1) (by omega) (by omega) (by first | (simp; done) | simp [mcol]) (by first | (simp; done) | simp [mcol]) (by first | (simp; done) | simp [mcol]) (by first | (simp; done) | simp [mcol]) (by first | (simp; done) | simp [mcol])
    · have q2 : ¬ (i : Int) < (M : Int) := by omega
      have hie : i = M := by omega
      subst hie
      simp only [q2, go_sem]
      simp only [aresult, ares, go_sem]
/-! printed by mkbi.py -/
/-! Cut -/
def cutN (m : Int) (n : Nat) : Nat := (max 0 (min m n)).toNat
theorem cutN_le (m : Int) (n : Nat) : cutN m n ≤ n := by unfold cutN; omega
theorem cutN_a (m : Int) (n : Nat) : (if (if (n : Int) < m then (n : Int) else m) > 0 then (if (n : Int) < m then (n : Int) else m) else 0) = (cutN m n : Int) := by
  unfold cutN
  split <;> split <;> omega
theorem cutN_b (m : Int) (n : Nat) : (if (n : Int) < (if (0 : Int) > m then 0 else m) then (n : Int) else (if (0 : Int) > m then 0 else m)) = (cutN m n : Int) := by
  unfold cutN
  split <;> split <;> omega
theorem cutA_lt (l : List Req) (n k : Nat) (h : k < l.length) (hn : k < n) : (l.take n).take (k + 1) = (l.take n).take k ++ [l[k]] := by
  rw [List.take_take, List.take_take, show min (k + 1) n = k + 1 by omega, show min k n = k by omega, List.take_succ_eq_append_getElem h]
theorem cutA_ge (l : List Req) (n k : Nat) (hn : ¬ k < n) : (l.take n).take (k + 1) = (l.take n).take k := by
  rw [List.take_take, List.take_take, show min (k + 1) n = n by omega, show min k n = n by omega]
theorem cutB_lt (l : List Req) (n k : Nat) (hn : k < n) : (l.take (k + 1)).drop n = (l.take k).drop n := by
  rw [List.drop_eq_nil_of_le (by rw [List.length_take]; omega), List.drop_eq_nil_of_le (by rw [List.length_take]; omega)]
theorem cutB_ge (l : List Req) (n k : Nat) (h : k < l.length) (hn : ¬ k < n) : (l.take (k + 1)).drop n = (l.take k).drop n ++ [l[k]] := by
  rw [List.take_succ_eq_append_getElem h, List.drop_append_of_le_length (by rw [List.length_take]; omega)]
set_option maxRecDepth 100000 in
set_option maxHeartbeats 4000000 in
theorem rsamelist_den (a b : List Req) (ha : a.length ≤ 9223372036854775807) (hf : ∀ r ∈ a, r.fits) : PDen Try.prog 15 [.a (.slice 8 (a.map Req.row)), .a (.slice 8 (b.map Req.row))] (.a (.bool (reqsEq a b))) := by
  unfold reqsEq
  by_cases hl : a.length = b.length
  · have q : ((a.length : Int) != (b.length : Int)) = false := by simp [hl]
    refine den_of_body k_ref36_SameList ⟨rfl, Nat.le_of_ble_eq_true rfl, thaw_intro ?_⟩
    unfold c_ref36_SameList
    simp only [q, go_sem]
    refine t_loop_intro (fun k : Nat => k ≤ a.length ∧ (eqL reqEq a b = eqL reqEq (a.drop k) (b.drop k))) (fun k => a.length - k) 0 [4, 5, 11, 12, 13, 14, 15, 16, 17, 18, 19, 20, 21, 22, 23, 24, 25, 26] (fun k => [(5, .a (.int .i64 k))]) ⟨by omega, by rfl⟩ (by simp) (fun k => by simp) rfl ?_
    intro k hk0 fr_ hfr
    have hk : k ≤ a.length := hk0.1
    have hall := hk0.2
    clear hk0
    simp only [go_sem] at hfr
    subst hfr
    by_cases hlt : k < a.length
    · have h1 : (k : Int) < (a.length : Int) := by omega
      have h1' : (k : Int) < (b.length : Int) := by omega
      have hlt2 : k < b.length := by omega
      have e := getD_map Req.row a k hlt
      have e2 := getD_map Req.row b k hlt2
      have er := rowr a[k]
      have er2 := rowr b[k]
      have ew := wrap1 k a.length hlt (by omega)
      have es := eqL_step reqEq a b k hlt hlt2
      have hs := rsame_den a[k] b[k] (hf _ (List.getElem_mem hlt))
      rw [er, er2] at hs
      rw [er] at e
      rw [er2] at e2
      simp only [h1, h1', e, e2, go_sem]
      refine t_call_intro (hs) ?_
      cases hq : reqEq a[k] b[k] with
      | true =>
        simp only [ew, go_sem]
        refine t_round (k + 1) ⟨by omega, by rw [hall, es, hq]; rfl⟩ (by omega) (by simp) rfl rfl (by simp) rfl
      | false =>
        simp only [go_sem]
        simp only [aresult, ares, go_sem]
        rw [hall, es, hq]; rfl
    · have h1 : ¬ (k : Int) < (a.length : Int) := by omega
      simp only [h1, go_sem]
      simp only [aresult, ares, go_sem]
      rw [hall, List.drop_eq_nil_of_le (by omega), List.drop_eq_nil_of_le (by omega)]; rfl
  · have q : ((a.length : Int) != (b.length : Int)) = true := by simp; omega
    rw [eqL_len reqEq a b hl]
    refine den_of_body k_ref36_SameList ⟨rfl, Nat.le_of_ble_eq_true rfl, thaw_intro ?_⟩
    unfold c_ref36_SameList
    simp only [q, go_sem]
    simp only [aresult, ares, go_sem]
end Go.Proofs.Ytemeiopghbpamaa
