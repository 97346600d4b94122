/- Chapter 22: the reference's Apply, walked. -/
import Derived.Test.YtlfebjehmabejaaMq
set_option linter.unusedSimpArgs false
set_option linter.unusedVariables false
namespace Go.Proofs.Ytlfebjehmabejaa
open Go Ab
set_option maxRecDepth 100000
attribute [local irreducible] awp aops aop asoft aeff aloop acall acallI acallT
attribute [local go_sem] Vl.row Ver.row Row.row Store.row Pr.row

/-! Apply -/
def wOk (last : Int) (old : Row) (p : Pr) : Bool := (p.key.toList == old.key.toList) && !vlEq p.v (vlAt old.vs last)
def refVs (at_ last : Int) (old : Row) (ws : List Pr) (j : Nat) : List Ver := old.vs ++ ((ws.take j).filter (wOk last old)).map fun p => ⟨at_, p.v⟩
def refVsA (at_ last : Int) (old : Row) (ws : List Pr) (j : Nat) : List (List Atom) := (refVs at_ last old ws j).map Ver.row
theorem refVsA_zero (at_ last : Int) (old : Row) (ws : List Pr) : refVsA at_ last old ws 0 = old.vs.map Ver.row := by simp [refVsA, refVs]
theorem refVsA_len (at_ last : Int) (old : Row) (ws : List Pr) (j : Nat) : (refVsA at_ last old ws j).length ≤ old.vs.length + j := by
  unfold refVsA refVs
  rw [List.length_map, List.length_append, List.length_map]
  have := List.length_filter_le (wOk last old) (ws.take j)
  rw [List.length_take] at this
  omega
theorem refVsA_yes (at_ last : Int) (old : Row) (ws : List Pr) (j : Nat) (h : j < ws.length) (hc : wOk last old ws[j] = true) : refVsA at_ last old ws j ++ [[.int .i64 at_, .int .i64 ws[j].v.kind, .int .i64 ws[j].v.n, .str ws[j].v.s]] = refVsA at_ last old ws (j + 1) := by
  unfold refVsA refVs
  rw [List.take_succ_eq_append_getElem h, List.filter_append, List.filter_cons_of_pos hc, List.filter_nil]
  simp [Ver.row]
theorem refVsA_no (at_ last : Int) (old : Row) (ws : List Pr) (j : Nat) (h : j < ws.length) (hc : wOk last old ws[j] = false) : refVsA at_ last old ws (j + 1) = refVsA at_ last old ws j := by
  unfold refVsA refVs
  rw [List.take_succ_eq_append_getElem h, List.filter_append, List.filter_cons_of_neg (by rw [hc]; simp), List.filter_nil, List.append_nil]
def refRow (at_ last : Int) (ws : List Pr) (rows : List Row) (key : ByteArray) : Row := ⟨(fndR rows key).key, refVs at_ last (fndR rows key) ws ws.length⟩
def refOut (at_ last : Int) (ws : List Pr) (rows : List Row) (keys : List ByteArray) : List Row := (keys.map (refRow at_ last ws rows)).filter fun r => !r.vs.isEmpty
def refUpto (at_ last : Int) (ws : List Pr) (rows : List Row) (keys : List ByteArray) (k : Nat) : List (List Atom) := (refOut at_ last ws rows (keys.take k)).map Row.row
theorem refUpto_zero (at_ last : Int) (ws : List Pr) (rows : List Row) (keys : List ByteArray) : refUpto at_ last ws rows keys 0 = [] := by simp [refUpto, refOut]
theorem refUpto_len (at_ last : Int) (ws : List Pr) (rows : List Row) (keys : List ByteArray) (k : Nat) : (refUpto at_ last ws rows keys k).length ≤ k := by
  unfold refUpto refOut
  rw [List.length_map]
  refine Nat.le_trans (List.length_filter_le _ _) ?_
  rw [List.length_map, List.length_take]; omega
theorem refUpto_none (at_ last : Int) (ws : List Pr) (rows : List Row) (keys : List ByteArray) (k : Nat) (h : k < keys.length) (he : refVs at_ last (fndR rows keys[k]) ws ws.length = []) : refUpto at_ last ws rows keys (k + 1) = refUpto at_ last ws rows keys k := by
  unfold refUpto refOut
  rw [List.take_succ_eq_append_getElem h, List.map_append, List.filter_append, List.map_cons, List.filter_cons_of_neg (by simp [refRow, he]), List.map_nil, List.filter_nil, List.append_nil]
theorem refUpto_some (at_ last : Int) (ws : List Pr) (rows : List Row) (keys : List ByteArray) (k : Nat) (h : k < keys.length) (he : refVs at_ last (fndR rows keys[k]) ws ws.length ≠ []) : refUpto at_ last ws rows keys k ++ [[.str (fndR rows keys[k]).key, .slice 4 (refVsA at_ last (fndR rows keys[k]) ws ws.length)]] = refUpto at_ last ws rows keys (k + 1) := by
  unfold refUpto refOut
  rw [List.take_succ_eq_append_getElem h, List.map_append, List.filter_append, List.map_cons, List.filter_cons_of_pos (by simpa [refRow] using he), List.map_nil, List.filter_nil, List.map_append]
  simp [refRow, Row.row, refVsA]
def keyRows (rows : List Row) (k : Nat) : List (List Atom) := ((rows.take k).map Row.key).map kRow
theorem keyRows_zero (rows : List Row) : keyRows rows 0 = [] := by simp [keyRows]
theorem keyRows_len (rows : List Row) (k : Nat) : (keyRows rows k).length ≤ k := by unfold keyRows; rw [List.length_map, List.length_map, List.length_take]; omega
theorem keyRows_step (rows : List Row) (k : Nat) (h : k < rows.length) : keyRows rows k ++ [[.str rows[k].key]] = keyRows rows (k + 1) := by
  unfold keyRows
  rw [List.take_succ_eq_append_getElem h, List.map_append, List.map_append]; rfl
def keysAt (ws : List Pr) (keys : List ByteArray) (k : Nat) : List ByteArray := (ws.take k).foldl (fun l p => insK p.key l) keys
theorem keysAt_zero (ws : List Pr) (keys : List ByteArray) : keysAt ws keys 0 = keys := by simp [keysAt]
theorem keysAt_step (ws : List Pr) (keys : List ByteArray) (k : Nat) (h : k < ws.length) : keysAt ws keys (k + 1) = insK ws[k].key (keysAt ws keys k) := by
  unfold keysAt
  rw [List.take_succ_eq_append_getElem h, List.foldl_append]; rfl
theorem insK_len (k : ByteArray) : ∀ l : List ByteArray, (insK k l).length ≤ l.length + 1
  | [] => Nat.le_refl _
  | x :: xs => by
    have := insK_len k xs
    unfold insK
    split
    · simp only [List.length_cons]; omega
    · split
      · simp
      · simp
theorem keysAt_len (ws : List Pr) (keys : List ByteArray) : ∀ k, k ≤ ws.length → (keysAt ws keys k).length ≤ keys.length + k
  | 0, _ => by rw [keysAt_zero]; exact Nat.le_refl _
  | k + 1, h => by
    have h1 := keysAt_len ws keys k (by omega)
    rw [keysAt_step ws keys k (by omega)]
    have := insK_len ws[k].key (keysAt ws keys k)
    omega
theorem fndR_vs {rows : List Row} {M : Nat} (h : ∀ r ∈ rows, r.vs.length ≤ M) (key : ByteArray) : (fndR rows key).vs.length ≤ M := by
  unfold fndR
  cases e : rowOf rows key with
  | none => exact Nat.zero_le _
  | some r => exact h r (rowOf_mem e).1
theorem fndR_at {s : Store} (hv : storeV s = true) (key : ByteArray) : (fndR s.rows key).vs.Pairwise (fun a b => a.at_ < b.at_) := by
  unfold fndR
  cases e : rowOf s.rows key with
  | none => exact .nil
  | some r => exact (versGo_sorted _ _ _ _ (versV_go _ _ _ ((storeV_sorted s hv).2 r (rowOf_mem e).1).2)).2.1
set_option maxHeartbeats 16000000 in
theorem rapply_good (s : Store) (hs : s.fit) (hsm : s.small) (at_ : Int) (ws : List Pr) (hwf : ∀ p ∈ ws, p.fit) (hv : storeV s = true) (hw : writesGo none ws = true) (ha : s.la < at_ ∧ at_ ≤ 1099511627776)
    (M : Nat) (hM : ∀ r ∈ s.rows, r.vs.length ≤ M) (hb : s.rows.length + ws.length + 1 ≤ 3000000000000) (hb2 : M + ws.length + 1 ≤ 3000000000000) :
    PDen Try.prog 10 [.agg s.row, .a (.int .i64 at_), .a (.slice 4 (ws.map Pr.row))] (.tup [.agg (Store.row ⟨s.fl, at_, refOut at_ s.la ws s.rows (keysAt ws (s.rows.map Row.key) ws.length)⟩), .a (.int .i64 0)]) := by
  have hsv := rstoreV_den s hs
  have hwd := rwrites_den ws (by omega) hwf
  rw [hv] at hsv
  rw [hw] at hwd
  have n1 : ¬ at_ ≤ s.la := by omega
  have n2 : ¬ at_ > 1099511627776 := by omega
  have n3 : ¬ 1099511627776 < at_ := by omega
  have ez := keyRows_zero s.rows
  refine den_of_body k_ref22_Apply_s ⟨rfl, Nat.le_of_ble_eq_true rfl, thaw_intro ?_⟩
  unfold c_ref22_Apply_s
  simp only [go_sem]
  refine t_call_intro (hsv) ?_
  simp only [go_sem]
  refine t_call_intro (hwd) ?_
  simp only [n1, n2, n3, go_sem]
  refine t_loopO_intro [.slot 8 9 1] (fun k : Nat => k ≤ s.rows.length) (fun k => s.rows.length - k) 0 [8, 9, 34, 35, 36, 37, 38, 39, 40, 41, 42, 43, 44, 45, 46, 47, 48, 49] (fun k => [(8, .own 0), (9, .a (.int .i64 k))]) (fun k => [[.a (.int .i64 s.fl), .a (.int .i64 s.la), .a (.slice 2 (s.rows.map Row.row))], [.a (.int .i64 0), .a (.int .i64 0), .a .nils]]) (fun k => [⟨9, 1, keyRows s.rows k, false⟩]) (by omega) (by simp) (by first | (simp; done) | simp [ez]) (by first | (simp; done) | simp [ez]) (by first | (simp; done) | simp [ez]) (fun k => by first | (simp; done) | simp [ez]) (fun k => by first | (simp; done) | simp [ez]) (fun k => by first | (simp; done) | simp [ez]) ?_
  intro k hk st_ hst
  simp only [go_sem] at hst
  subst hst
  by_cases hlt : k < s.rows.length
  · have h1 : (k : Int) < (s.rows.length : Int) := by omega
    have e := getD_map Row.row s.rows k hlt
    have er : s.rows[k].row = [.str s.rows[k].key, .slice 4 (s.rows[k].vs.map Ver.row)] := rfl
    have ew := wrap1 k s.rows.length hlt (by omega)
    have hln := keyRows_len s.rows k
    have es := keyRows_step s.rows k hlt
    simp only [h1, e, er, go_sem]
    refine t_gate_intro (by omega) ?_
    simp only [es, ew, go_sem]
    refine t_roundO (k + 1) (by omega) (by omega) (by simp) (by simp) (by simp) (by simp) (by simp)
  · have h1 : ¬ (k : Int) < (s.rows.length : Int) := by omega
    have ek : keyRows s.rows k = (s.rows.map Row.key).map kRow := by unfold keyRows; rw [List.take_of_length_le (by omega)]
    have hz := keysAt_zero ws (s.rows.map Row.key)
    simp only [h1, ek, go_sem]
    refine t_loopO_intro [] (fun j : Nat => j ≤ ws.length) (fun j => ws.length - j) 0 [8, 10, 50, 51, 52, 53, 54, 55, 56, 57, 58, 59, 60, 61, 62] (fun j => [(8, .a (.slice 1 ((keysAt ws (s.rows.map Row.key) j).map kRow))), (10, .a (.int .i64 j))]) (fun j => [[.a (.int .i64 s.fl), .a (.int .i64 s.la), .a (.slice 2 (s.rows.map Row.row))], [.a (.int .i64 0), .a (.int .i64 0), .a .nils]]) (fun j => [⟨9, 1, (s.rows.map Row.key).map kRow, false⟩]) (by omega) (by simp) (by first | (simp; done) | simp [hz]) (by first | (simp; done) | simp [hz]) (by first | (simp; done) | simp [hz]) (fun j => by first | (simp; done) | simp [hz]) (fun j => by first | (simp; done) | simp [hz]) (fun j => by first | (simp; done) | simp [hz]) ?_
    intro j hkj st_ hst
    simp only [go_sem] at hst
    subst hst
    by_cases hltj : j < ws.length
    · have h2 : (j : Int) < (ws.length : Int) := by omega
      have e := getD_map Pr.row ws j hltj
      have er : ws[j].row = [.str ws[j].key, .int .i64 ws[j].v.kind, .int .i64 ws[j].v.n, .str ws[j].v.s] := rfl
      have ew := wrap1 j ws.length hltj (by omega)
      have hkl := keysAt_len ws (s.rows.map Row.key) j (by omega)
      rw [List.length_map] at hkl
      have hd := rinsert_den (keysAt ws (s.rows.map Row.key) j) ws[j].key (by omega)
      rw [← keysAt_step ws _ j hltj] at hd
      simp only [h2, e, er, go_sem]
      refine t_call_intro (hd) ?_
      simp only [ew, go_sem]
      refine t_roundO (j + 1) (by omega) (by omega) (by simp) (by simp) (by simp) (by simp) (by simp)
    · have h2 : ¬ (j : Int) < (ws.length : Int) := by omega
      have ej : j = ws.length := by omega
      subst ej
      have hkl := keysAt_len ws (s.rows.map Row.key) ws.length (Nat.le_refl _)
      rw [List.length_map] at hkl
      generalize hKs : keysAt ws (s.rows.map Row.key) ws.length = Ks at *
      have ez2 := refUpto_zero at_ s.la ws s.rows Ks
      simp only [h2, go_sem]
      refine t_loopO_intro [.cell 2 2 52 2] (fun i : Nat => i ≤ Ks.length) (fun i => Ks.length - i) 0 [12, 13, 14, 15, 67, 68, 69, 70, 71, 72, 73, 74, 75, 76, 77, 78, 79, 80, 81, 82, 83, 84, 85, 86, 87, 88, 89, 90, 91, 92, 93, 94, 95, 96, 97, 98, 99, 100, 101, 102, 103, 104, 105, 106, 107, 108, 109, 110, 111, 112, 113, 114, 115, 116, 117, 118, 119, 120, 121, 122, 123, 124, 125, 126, 127, 128, 129, 130, 131, 132, 133, 134, 135] (fun i => [(12, .a (.int .i64 i))]) (fun i => [[.a (.int .i64 s.fl), .a (.int .i64 s.la), .a (.slice 2 (s.rows.map Row.row))], [.a (.int .i64 0), .a (.int .i64 0), .a .nils], [.a (.int .i64 s.fl), .a (.int .i64 at_), .own 1]]) (fun i => [⟨9, 1, (s.rows.map Row.key).map kRow, false⟩, ⟨52, 2, refUpto at_ s.la ws s.rows Ks i, false⟩]) (by omega) (by simp) (by first | (simp; done) | simp [ez2]) (by first | (simp; done) | simp [ez2]) (by first | (simp; done) | simp [ez2]) (fun i => by first | (simp; done) | simp [ez2]) (fun i => by first | (simp; done) | simp [ez2]) (fun i => by first | (simp; done) | simp [ez2]) ?_
      intro i hki st_ hst
      simp only [go_sem] at hst
      subst hst
      by_cases hlti : i < Ks.length
      · have h3 : (i : Int) < (Ks.length : Int) := by omega
        have e := getD_map kRow Ks i hlti
        have er : kRow Ks[i] = [.str Ks[i]] := rfl
        have ewi := wrap1 i Ks.length hlti (by omega)
        have hfd := rfind_den s (by omega) Ks[i]
        have hol := fndR_vs hM Ks[i]
        have hpw := fndR_at hv Ks[i]
        have e0 := refUpto_none at_ s.la ws s.rows Ks i hlti
        have e1 := refUpto_some at_ s.la ws s.rows Ks i hlti
        have hln := refUpto_len at_ s.la ws s.rows Ks i
        have hsd := rseen_den (fndR s.rows Ks[i]) (by omega) s.la
        rw [lastV_vlAt _ _ hpw] at hsd
        have erw : (fndR s.rows Ks[i]).row = [.str (fndR s.rows Ks[i]).key, .slice 4 ((fndR s.rows Ks[i]).vs.map Ver.row)] := rfl
        rw [erw] at hfd hsd
        generalize fndR s.rows Ks[i] = old at *
        have ezv := refVsA_zero at_ s.la old ws
        simp only [h3, e, er, go_sem]
        refine t_call_intro (hfd) ?_
        simp only [go_sem]
        refine t_gate_intro (by first | omega | (simp; done) | (simp; omega)) ?_
        simp only [go_sem]
        refine t_loopO_intro [] (fun m : Nat => m ≤ ws.length) (fun m => ws.length - m) 0 [15, 88, 89, 90, 91, 92, 93, 94, 95, 96, 97, 98, 99, 100, 101, 102, 103, 104, 105, 106, 107, 108, 109, 110, 111, 112, 113, 114, 115, 116, 117, 118, 119, 120, 121, 122, 123, 124, 125] (fun m => [(15, .a (.int .i64 m)), (86, .any)]) (fun m => [[.a (.int .i64 s.fl), .a (.int .i64 s.la), .a (.slice 2 (s.rows.map Row.row))], [.a (.int .i64 0), .a (.int .i64 0), .a .nils], [.a (.int .i64 s.fl), .a (.int .i64 at_), .own 1], [.a (.str old.key), .a (.slice 4 (old.vs.map Ver.row))], [.a (.str old.key), .own 2]]) (fun m => [⟨9, 1, (s.rows.map Row.key).map kRow, false⟩, ⟨52, 2, refUpto at_ s.la ws s.rows Ks i, false⟩, ⟨56, 4, refVsA at_ s.la old ws m, false⟩]) (by omega) (by simp) (by first | (simp; done) | simp [ezv]) (by first | (simp; done) | simp [ezv]) (by first | (simp; done) | simp [ezv]) (fun m => by first | (simp; done) | simp [ezv]) (fun m => by first | (simp; done) | simp [ezv]) (fun m => by first | (simp; done) | simp [ezv]) ?_
        intro m hkm st_ hst
        simp only [go_sem] at hst
        subst hst
        by_cases hltm : m < ws.length
        · have h4 : (m : Int) < (ws.length : Int) := by omega
          have e4 := getD_map Pr.row ws m hltm
          have er4 : ws[m].row = [.str ws[m].key, .int .i64 ws[m].v.kind, .int .i64 ws[m].v.n, .str ws[m].v.s] := rfl
          have ewm := wrap1 m ws.length hltm (by omega)
          have hvl := refVsA_len at_ s.la old ws m
          have ey := refVsA_yes at_ s.la old ws m hltm
          have en := refVsA_no at_ s.la old ws m hltm
          unfold wOk at ey en
          rw [vlEq_row] at ey en
          simp only [h4, e4, er4, go_sem]
          cases hk : (ws[m].key.toList == old.key.toList) with
          | false =>
            rw [hk] at en
            have es := en rfl
            simp only [go_sem]
            rw [← es]
            simp only [ewm, go_sem]
            refine t_roundO (m + 1) (by omega) (by omega) (by simp) (by simp) (by simp) (by simp) (by simp)
          | true =>
            rw [hk] at ey en
            simp only [h4, e4, er4, go_sem]
            refine t_call_intro (hsd) ?_
            simp only [go_sem]
            cases hq : ((ws[m].v.kind == (vlAt old.vs s.la).kind) && ((ws[m].v.n == (vlAt old.vs s.la).n) && ((ws[m].v.s.toList == (vlAt old.vs s.la).s.toList) && true))) with
            | true =>
              rw [hq] at en
              have es := en rfl
              simp only [hq, go_sem]
              rw [← es]
              simp only [ewm, go_sem]
              refine t_roundO (m + 1) (by omega) (by omega) (by simp) (by simp) (by simp) (by simp) (by simp)
            | false =>
              rw [hq] at ey
              have es := ey rfl
              simp only [hq, h4, e4, er4, go_sem]
              refine t_gate_intro (by first | omega | (simp; done) | (simp; omega)) ?_
              simp only [es, ewm, go_sem]
              refine t_roundO (m + 1) (by omega) (by omega) (by simp) (by simp) (by simp) (by simp) (by simp)
        · have h4 : ¬ (m : Int) < (ws.length : Int) := by omega
          have em : m = ws.length := by omega
          subst em
          have hvl := refVsA_len at_ s.la old ws ws.length
          simp only [h4, go_sem]
          by_cases hz : refVs at_ s.la old ws ws.length = []
          · have hz0 : ¬ (0 : Int) < ((refVsA at_ s.la old ws ws.length).length : Int) := by simp [refVsA, hz]
            have es := e0 hz
            simp only [hz0, go_sem]
            rw [← es]
            simp only [ewi, go_sem]
            refine t_roundO (i + 1) (by omega) (by omega) (by simp) (by simp) (by simp) (by simp) (by simp)
          · have hz0 : (0 : Int) < ((refVsA at_ s.la old ws ws.length).length : Int) := by
              have := List.length_pos_iff.mpr hz
              unfold refVsA
              rw [List.length_map]; omega
            have es := e1 hz
            simp only [hz0, go_sem]
            refine t_gate_intro (by first | omega | (simp; done) | (simp; omega)) ?_
            simp only [es, ewi, go_sem]
            refine t_roundO (i + 1) (by omega) (by omega) (by simp) (by simp) (by simp) (by simp) (by simp)
      · have h3 : ¬ (i : Int) < (Ks.length : Int) := by omega
        have ei : refUpto at_ s.la ws s.rows Ks i = (refOut at_ s.la ws s.rows Ks).map Row.row := by unfold refUpto; rw [List.take_of_length_le (by omega)]
        simp only [h3, ei, go_sem]
        simp only [aresult, ares, go_sem]
end Go.Proofs.Ytlfebjehmabejaa
