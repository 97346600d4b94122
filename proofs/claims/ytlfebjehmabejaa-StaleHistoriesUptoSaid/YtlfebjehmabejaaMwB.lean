/- The package mvstore: writes that can be applied; Apply, given what each write does. -/
import Derived.Test.YtlfebjehmabejaaMwA
import Derived.Test.YtlfebjehmabejaaUs
set_option linter.unusedSimpArgs false
set_option linter.unusedVariables false
namespace Go.Proofs.Ytlfebjehmabejaa
open Go Ab
attribute [local irreducible] awp aops aop asoft aeff aloop acall acallI acallT
attribute [local go_sem] Vl.row Ver.row Row.row Store.row Rg.row Pr.row

def Pr.fit (p : Pr) : Prop := p.key.size ≤ 9223372036854775807 ∧ p.v.s.size ≤ 9223372036854775807
def prStep (p : Option Pr) (x : Pr) : Bool := match p with | none => true | some y => strGt x.key y.key
def writesGo : Option Pr → List Pr → Bool
  | _, [] => true
  | p, x :: xs => keyV x.key && valV x.v && prStep p x && writesGo (some x) xs
def pp (l : List Pr) : Nat → Option Pr
  | 0 => none
  | k + 1 => l[k]?
theorem writesGo_step (l : List Pr) (k : Nat) (h : k < l.length) : writesGo (pp l k) (l.drop k) = (keyV l[k].key && valV l[k].v && prStep (pp l k) l[k] && writesGo (pp l (k + 1)) (l.drop (k + 1))) := by
  rw [List.drop_eq_getElem_cons h]
  simp only [writesGo, pp]
  rw [List.getElem?_eq_getElem h]

set_option maxRecDepth 100000 in
set_option maxHeartbeats 2000000 in
theorem writes_den (l : List Pr) (hl : l.length * 40 ≤ 140737488351232) (hf : ∀ p ∈ l, p.fit) : PDen Try.prog 24 [.a (.slice 4 (l.map Pr.row))] (.a (.bool (writesGo none l))) := by
  refine den_of_body k_mvstore_validWrites ⟨rfl, Nat.le_of_ble_eq_true rfl, thaw_intro ?_⟩
  unfold c_mvstore_validWrites
  simp only [go_sem]
  refine t_loop_intro (fun k : Nat => k ≤ l.length ∧ (writesGo none l = writesGo (pp l k) (l.drop k))) (fun k => l.length - k) 0 [2, 3, 4, 7, 8, 9, 10, 11, 12, 13, 14, 15, 16, 17, 18, 19, 20, 21, 22, 23, 24, 25, 26, 27, 28, 29, 30, 31, 32, 33, 34, 35, 36, 37] (fun k => [(7, .a (.int .i64 k))]) ⟨by omega, by rfl⟩ (by simp) (fun k => by simp) rfl ?_
  intro k hk0 fr_ hfr
  have hk : k ≤ l.length := hk0.1
  have hall := hk0.2
  clear hk0
  simp only [go_sem] at hfr
  subst hfr
  by_cases hlt : k < l.length
  · have h1 : (k : Int) < (l.length : Int) := by omega
    have e := getD_map Pr.row l k hlt
    have er : l[k].row = [.str l[k].key, .int .i64 l[k].v.kind, .int .i64 l[k].v.n, .str l[k].v.s] := rfl
    have ew := wrap1 k l.length hlt (by omega)
    have es := writesGo_step l k hlt
    have hfk := hf _ (List.getElem_mem hlt)
    simp only [h1, e, er, go_sem]
    refine t_call_intro (keyV_den l[k].key hfk.1) ?_
    simp only [go_sem]
    first | refine t_case_dec (fun h2 => ?_) (fun h2 => ?_) | refine t_case_ndec (fun h2 => ?_) (fun h2 => ?_) | refine t_case_eqI (fun h2 => ?_) (fun h2 => ?_) | refine t_case_neI (fun h2 => ?_) (fun h2 => ?_) | refine t_case_not (fun h2 => ?_) (fun h2 => ?_) | refine t_case_intro (fun h2 => ?_) (fun h2 => ?_)
    rotate_left
    · simp only [go_sem]
      simp only [aresult, ares, go_sem]
      rw [hall, es, h2]; simp
    simp only [go_sem]
    refine t_call_intro (valV_den l[k].v hfk.2) ?_
    simp only [go_sem]
    first | refine t_case_dec (fun h3 => ?_) (fun h3 => ?_) | refine t_case_ndec (fun h3 => ?_) (fun h3 => ?_) | refine t_case_eqI (fun h3 => ?_) (fun h3 => ?_) | refine t_case_neI (fun h3 => ?_) (fun h3 => ?_) | refine t_case_not (fun h3 => ?_) (fun h3 => ?_) | refine t_case_intro (fun h3 => ?_) (fun h3 => ?_)
    rotate_left
    · simp only [go_sem]
      simp only [aresult, ares, go_sem]
      rw [hall, es, h3]; simp
    simp only [go_sem]
    first | refine t_case_dec (fun h4 => ?_) (fun h4 => ?_) | refine t_case_ndec (fun h4 => ?_) (fun h4 => ?_) | refine t_case_eqI (fun h4 => ?_) (fun h4 => ?_) | refine t_case_neI (fun h4 => ?_) (fun h4 => ?_) | refine t_case_not (fun h4 => ?_) (fun h4 => ?_) | refine t_case_intro (fun h4 => ?_) (fun h4 => ?_)
    rotate_left
    · have hk0 : k = 0 := by omega
      have epp : pp l k = none := by rw [hk0]; rfl
      simp only [ew, go_sem]
      refine t_round (k + 1) ⟨by omega, by rw [hall, es, h2, h3, epp]; simp [prStep, ← epp]⟩ (by omega) (by simp) rfl rfl (by simp) rfl
    have hk1 : 0 < k := by omega
    have ew' := unwrap1 k hk1 (by omega)
    have hlt1 : k - 1 < l.length := by omega
    have h8 : ((k - 1 : Nat) : Int) < (l.length : Int) := by omega
    have e1 := getD_map Pr.row l (k - 1) hlt1
    have er1 : l[k-1].row = [.str l[k-1].key, .int .i64 l[k-1].v.kind, .int .i64 l[k-1].v.n, .str l[k-1].v.s] := rfl
    have epp : pp l k = some l[k-1] := by
      obtain ⟨j, rfl⟩ : ∃ j, k = j + 1 := ⟨k - 1, by omega⟩
      simp [pp]
    simp only [ew', h8, e1, er1, go_sem]
    first | refine t_case_dec (fun h9 => ?_) (fun h9 => ?_) | refine t_case_ndec (fun h9 => ?_) (fun h9 => ?_) | refine t_case_eqI (fun h9 => ?_) (fun h9 => ?_) | refine t_case_neI (fun h9 => ?_) (fun h9 => ?_) | refine t_case_not (fun h9 => ?_) (fun h9 => ?_) | refine t_case_intro (fun h9 => ?_) (fun h9 => ?_)
    · simp only [go_sem]
      simp only [aresult, ares, go_sem]
      rw [hall, es, epp]; simp only [prStep, strGt]; simp [h9]
    · simp only [ew, go_sem]
      refine t_round (k + 1) ⟨by omega, by rw [hall, es, h2, h3, epp]; simp only [prStep, strGt]; simp [h9]⟩ (by omega) (by simp) rfl rfl (by simp) rfl
  · have h1 : ¬ (k : Int) < (l.length : Int) := by omega
    simp only [h1, go_sem]
    simp only [aresult, ares, go_sem]
    rw [List.drop_eq_nil_of_le (by omega)] at hall
    rw [hall]; rfl

/-- A row is laid in. -/
def InsOk (rows rows' : List Row) (lo : Nat) (x : Row) : Prop :=
  ∀ H : List (List AV), (H.map (·.map (inval 0))).all (·.all (Ab.boundV H.length 1)) = true →
    IDen Try.prog 27 [.own 0, .a (.int .i64 lo), .a (.slice 2 [x.row])] H [⟨52, 2, rows.map Row.row, true⟩] (.own 0) (H.map (·.map (inval 0))) [⟨52, 2, rows'.map Row.row, true⟩] false
inductive AStep (at_ last : Int) (rows rows' : List Row) (p : Pr) (lo : Nat) : Prop
  | none (h : foundV rows lo p.key = false) (hk : p.v.kind = 0) (he : rows' = rows)
  | new (h : foundV rows lo p.key = false) (hk : p.v.kind ≠ 0) (he : InsOk rows rows' lo ⟨p.key, [⟨at_, p.v⟩]⟩)
  | same (hl : lo < rows.length) (h : foundV rows lo p.key = true) (hk : vlEq (vlAt rows[lo].vs last) p.v = true) (he : rows' = rows)
  | more (hl : lo < rows.length) (h : foundV rows lo p.key = true) (hk : vlEq (vlAt rows[lo].vs last) p.v = false) (he : rows' = rows.set lo ⟨rows[lo].key, rows[lo].vs ++ [⟨at_, p.v⟩]⟩)
def Lo (rows : List Row) (key : ByteArray) (lo : Nat) : Prop := lo ≤ rows.length ∧ (∀ (i : Nat) (hi : i < rows.length), i < lo → cmpV rows[i].key key < 0) ∧ ∀ (i : Nat) (hi : i < rows.length), lo ≤ i → ¬ cmpV rows[i].key key < 0

set_option maxRecDepth 100000 in
set_option maxHeartbeats 4000000 in
theorem apply_den (s : Store) (hs : s.fit) (hsm : s.small) (at_ : Int) (ws : List Pr) (hwl : ws.length * 40 ≤ 140737488351232) (hwf : ∀ p ∈ ws, p.fit) (hv : storeV s = true) (hw : writesGo none ws = true) (ha : s.la < at_ ∧ at_ ≤ 1099511627776)
    (rowsAt : Nat → List Row) (h0 : rowsAt 0 = s.rows) (hlen : ∀ k, (rowsAt k).length * 40 ≤ 140737488351232 ∧ ∀ r ∈ rowsAt k, (r.vs.length + 1) * 40 ≤ 140737488351232)
    (hstep : ∀ (k : Nat) (hk : k < ws.length), ∃ lo, Lo (rowsAt k) ws[k].key lo ∧ AStep at_ s.la (rowsAt k) (rowsAt (k + 1)) ws[k] lo) :
    PDen Try.prog 9 [.agg s.row, .a (.int .i64 at_), .a (.slice 4 (ws.map Pr.row))] (.tup [.agg (Store.row ⟨s.fl, at_, rowsAt ws.length⟩), .a (.int .i64 0)]) := by
  have hsv := storeV_den s hs
  have hwd := writes_den ws hwl hwf
  rw [hv] at hsv
  rw [hw] at hwd
  have n1 : ¬ at_ ≤ s.la := by omega
  have n2 : ¬ at_ > 1099511627776 := by omega
  have n3 : ¬ 1099511627776 < at_ := by omega
  have hcl := clone_iden s hsm.1 (fun r hr => (hsm.2 r hr).1) (.int .i64 s.fl) (.int .i64 s.la) (.slice 2 (s.rows.map Row.row)) (.int .i64 0) (.int .i64 0) .nils
  refine den_of_body k_mvstore_Apply ⟨rfl, Nat.le_of_ble_eq_true rfl, thaw_intro ?_⟩
  unfold c_mvstore_Apply
  simp only [go_sem]
  refine t_call_intro (hsv) ?_
  simp only [go_sem]
  refine t_call_intro (hwd) ?_
  simp only [n1, n2, n3, go_sem]
  refine t_callI_intro (hcl) ?_
  simp only [go_sem]
  refine t_loopO_intro [] (fun k : Nat => k ≤ ws.length) (fun k => ws.length - k) 0 [10, 11, 12, 13, 14, 39, 40, 41, 42, 43, 44, 45, 46, 47, 48, 49, 50, 51, 52, 53, 54, 55, 56, 57, 58, 59, 60, 61, 62, 63, 64, 65, 66, 67, 68, 69, 70, 71, 72, 73, 74, 75, 76, 77, 78, 79, 80, 81, 82, 83, 84, 85, 86, 87, 88, 89, 90, 91, 92, 93, 94, 95, 96, 97, 98, 99, 100, 101, 102, 103, 104, 105, 106, 107, 108, 109, 110] (fun k => [(39, .a (.int .i64 k)), (34, .any)]) (fun k => [[.a (.int .i64 s.fl), .a (.int .i64 s.la), .a (.slice 2 (s.rows.map Row.row))], [.a (.int .i64 0), .a (.int .i64 0), .a .nils], [.a (.int .i64 s.fl), .a (.int .i64 at_), .own 0]]) (fun k => [⟨52, 2, (rowsAt k).map Row.row, true⟩]) (by omega) (by simp) (by first | (simp; done) | simp [h0]) (by first | (simp; done) | simp [h0]) (by first | (simp; done) | simp [h0]) (fun k => by first | (simp; done) | simp [h0]) (fun k => by first | (simp; done) | simp [h0]) (fun k => by first | (simp; done) | simp [h0]) ?_
  intro k hk st_ hst
  simp only [go_sem] at hst
  subst hst
  by_cases hlt : k < ws.length
  · have h1 : (k : Int) < (ws.length : Int) := by omega
    have e := getD_map Pr.row ws k hlt
    have er : ws[k].row = [.str ws[k].key, .int .i64 ws[k].v.kind, .int .i64 ws[k].v.n, .str ws[k].v.s] := rfl
    have ew := wrap1 k ws.length hlt (by omega)
    obtain ⟨lo, hLo, hst⟩ := hstep k hlt
    simp only [h1, e, er, go_sem]
    refine t_callT_intro (find_den (rowsAt k) ws[k].key lo (hlen k).1 hLo.1 hLo.2.1 hLo.2.2) rfl ?_
    simp only [go_sem]
    cases hst with
    | none hfo hk he =>
      have hk' : (ws[k].v.kind != 0) = false := by simp [hk]
      simp only [hfo, hk', ew, go_sem]
      refine t_roundO (k + 1) (by omega) (by omega) (by first | (simp; done) | simp [he]) (by first | (simp; done) | simp [he]) (by first | (simp; done) | simp [he]) (by first | (simp; done) | simp [he]) (by first | (simp; done) | simp [he])
    | new hfo hk he =>
      have hk' : (ws[k].v.kind != 0) = true := by simp [hk]
      simp only [hfo, hk', go_sem]
      refine t_callI_intro (he _ (by simp [inval])) ?_
      simp only [ew, go_sem]
      refine t_roundO (k + 1) (by omega) (by omega) (by simp) (by simp) (by simp) (by simp) (by simp)
    | same hlo hfo hk he =>
      have e2 := getD_map Row.row (rowsAt k) lo hlo
      have er2 : (rowsAt k)[lo].row = [.str (rowsAt k)[lo].key, .slice 4 ((rowsAt k)[lo].vs.map Ver.row)] := rfl
      have hl2 : (lo : Int) < ((rowsAt k).length : Int) := by omega
      rw [vlEq_row] at hk
      simp only [hfo, hl2, hlo, e2, er2, go_sem]
      refine t_call_intro (valueAt_den (rowsAt k)[lo] (by have := (hlen k).2 _ (List.getElem_mem hlo); omega) s.la) ?_
      simp only [hk, ew, go_sem]
      refine t_roundO (k + 1) (by omega) (by omega) (by first | (simp; done) | simp [he]) (by first | (simp; done) | simp [he]) (by first | (simp; done) | simp [he]) (by first | (simp; done) | simp [he]) (by first | (simp; done) | simp [he])
    | more hlo hfo hk he =>
      have e2 := getD_map Row.row (rowsAt k) lo hlo
      have er2 : (rowsAt k)[lo].row = [.str (rowsAt k)[lo].key, .slice 4 ((rowsAt k)[lo].vs.map Ver.row)] := rfl
      have hl2 : (lo : Int) < ((rowsAt k).length : Int) := by omega
      have hvl := (hlen k).2 _ (List.getElem_mem hlo)
      have et : ((rowsAt k)[lo].vs.map Ver.row).take (rowsAt k)[lo].vs.length = (rowsAt k)[lo].vs.map Ver.row := List.take_of_length_le (by simp)
      have eset : ((rowsAt k).map Row.row).set lo [.str (rowsAt k)[lo].key, .slice 4 ((rowsAt k)[lo].vs.map Ver.row ++ [[.int .i64 at_, .int .i64 ws[k].v.kind, .int .i64 ws[k].v.n, .str ws[k].v.s]])] = (rowsAt (k + 1)).map Row.row := by
        rw [he, List.map_set]; simp [Row.row, Ver.row]
      rw [vlEq_row] at hk
      simp only [hfo, hl2, hlo, e2, er2, go_sem]
      refine t_call_intro (valueAt_den (rowsAt k)[lo] (by omega) s.la) ?_
      simp only [hk, hl2, hlo, e2, er2, et, go_sem]
      refine t_gate_intro (by first | (simp; done) | (simp; omega)) ?_
      simp only [go_sem]
      refine t_gate_intro (ins_gate _ hvl) ?_
      simp only [hl2, hlo, e2, er2, eset, ew, go_sem]
      refine t_roundO (k + 1) (by omega) (by omega) (by simp) (by simp) (by simp) (by simp) (by simp)
  · have h1 : ¬ (k : Int) < (ws.length : Int) := by omega
    have hkn : k = ws.length := by omega
    simp only [h1, go_sem]
    simp only [aresult, ares, go_sem]
    rw [hkn]
end Go.Proofs.Ytlfebjehmabejaa
