/- The package mvstore: what is valid. -/
import Derived.Test.YtlfebjehmabejaaKv
set_option linter.unusedSimpArgs false
set_option linter.unusedVariables false
namespace Go.Proofs.Ytlfebjehmabejaa
open Go Ab
attribute [local irreducible] awp aops aop asoft aeff aloop acall

structure Ver where
  at_ : Int
  v : Vl
def Ver.row (x : Ver) : List Atom := [.int .i64 x.at_, .int .i64 x.v.kind, .int .i64 x.v.n, .str x.v.s]
def Ver.fit (x : Ver) : Prop := x.v.s.size ≤ 9223372036854775807
def vlEq (a b : Vl) : Bool := (a.kind == b.kind) && (a.n == b.n) && (a.s.toList == b.s.toList)
def verOk (fl la : Int) (x : Ver) : Bool := decide (fl ≤ x.at_) && decide (x.at_ ≤ la) && valV x.v
def verStep (p x : Ver) : Bool := decide (p.at_ < x.at_) && !vlEq x.v p.v
def versGo (fl la : Int) : Option Ver → List Ver → Bool
  | _, [] => true
  | p, x :: xs => verOk fl la x && (match p with | none => true | some y => verStep y x) && versGo fl la (some x) xs
def versV (vs : List Ver) (fl la : Int) : Bool :=
  match vs with
  | [] => false
  | x :: _ => !(x.v.kind == 0) && versGo fl la none vs

def pv (vs : List Ver) : Nat → Option Ver
  | 0 => none
  | k + 1 => vs[k]?
theorem vlEq_row (a b : Vl) : vlEq a b = ((a.kind == b.kind) && ((a.n == b.n) && ((a.s.toList == b.s.toList) && true))) := by
  unfold vlEq
  cases a.kind == b.kind <;> cases a.n == b.n <;> cases a.s.toList == b.s.toList <;> rfl
theorem unwrap1 (k : Nat) (h : 0 < k) (hn : k ≤ 9223372036854775807) : IntKind.i64.wrap ((k : Int) - 1) = ((k - 1 : Nat) : Int) := by
  rw [IntKind.wrap_i64]; omega
theorem getD_map {α : Type} (f : α → List Atom) (l : List α) (k : Nat) (h : k < l.length) : (l.map f).getD k [] = f l[k] := by
  simp [List.getD_eq_getElem?_getD, h]
theorem versGo_step (vs : List Ver) (fl la : Int) (k : Nat) (h : k < vs.length) :
    versGo fl la (pv vs k) (vs.drop k) = (verOk fl la vs[k] && (match pv vs k with | none => true | some y => verStep y vs[k]) && versGo fl la (pv vs (k + 1)) (vs.drop (k + 1))) := by
  rw [List.drop_eq_getElem_cons h]
  have e : pv vs (k + 1) = some vs[k] := by simp [pv, h]
  rw [e]; rfl

set_option maxRecDepth 100000 in
set_option maxHeartbeats 1000000 in
theorem rowV_den (key : ByteArray) (vs : List Ver) (fl la : Int) (hf : ∀ x ∈ vs, x.fit) (hs : vs.length ≤ 9223372036854775807) :
    PDen Try.prog 43 [.agg [.str key, .slice 4 (vs.map Ver.row)], .a (.int .i64 fl), .a (.int .i64 la)] (.a (.bool (versV vs fl la))) := by
  refine den_of_body k_mvstore_validRow ⟨rfl, Nat.le_of_ble_eq_true rfl, thaw_intro ?_⟩
  unfold c_mvstore_validRow
  simp only [go_sem]
  refine t_case_intro (fun h => ?_) (fun h => ?_)
  · have h0 : 0 < vs.length := by simp at h; exact List.length_pos_iff.mpr h
    have h1 : (0 : Int) < (vs.length : Int) := by omega
    have e0 := getD_map Ver.row vs 0 h0
    have eV : versV vs fl la = (!(vs[0].v.kind == 0) && versGo fl la none vs) := by
      cases vs with
      | nil => simp at h0
      | cons x xs => rfl
    have er : vs[0].row = [.int .i64 vs[0].at_, .int .i64 vs[0].v.kind, .int .i64 vs[0].v.n, .str vs[0].v.s] := rfl
    simp only [h1, e0, er, go_sem]
    refine t_case_intro (fun h2 => ?_) (fun h2 => ?_)
    · simp only [go_sem]
      simp only [aresult, ares, go_sem]
      rw [eV, h2]; rfl
    · simp only [go_sem]
      refine t_loop_intro (fun k : Nat => k ≤ vs.length ∧ versGo fl la none vs = versGo fl la (pv vs k) (vs.drop k)) (fun k => vs.length - k) 0 [6, 7, 8, 25, 26, 27, 28, 29, 30, 31, 32, 33, 34, 35, 36, 37, 38, 39, 40, 41, 42, 43, 44, 45, 46, 47, 48, 49, 50, 51, 52, 53, 54, 55, 56, 57, 58, 59, 60, 61, 62, 63, 64, 65, 66, 67, 68, 69, 70, 71, 72] (fun k => [(25, .a (.int .i64 k))]) ⟨by omega, by rfl⟩ (by simp) (fun k => by simp) rfl ?_
      intro k hk0 fr' hfr
      have hk : k ≤ vs.length := hk0.1
      have hall := hk0.2
      clear hk0
      simp only [go_sem] at hfr
      subst hfr
      by_cases hlt : k < vs.length
      · have h3 : (k : Int) < (vs.length : Int) := by omega
        have ew := wrap1 k vs.length hlt hs
        have e := getD_map Ver.row vs k hlt
        have er' : vs[k].row = [.int .i64 vs[k].at_, .int .i64 vs[k].v.kind, .int .i64 vs[k].v.n, .str vs[k].v.s] := rfl
        have hb : verOk fl la vs[k] = false → versV vs fl la = false := fun hx => by
          rw [eV, hall, versGo_step vs fl la k hlt, hx]; simp
        have hb2 : (match pv vs k with | none => true | some y => verStep y vs[k]) = false → versV vs fl la = false := fun hx => by
          rw [eV, hall, versGo_step vs fl la k hlt, hx]; simp
        have hg : verOk fl la vs[k] = true → (match pv vs k with | none => true | some y => verStep y vs[k]) = true → versGo fl la none vs = versGo fl la (pv vs (k + 1)) (vs.drop (k + 1)) := fun hx hy => by
          rw [hall, versGo_step vs fl la k hlt, hx, hy]; rfl
        simp only [h3, e, er', go_sem]
        refine t_case_intro (fun h4 => ?_) (fun h4 => ?_)
        rotate_left
        · simp only [go_sem]
          simp only [aresult, ares, go_sem]
          rw [hb (by simp at h4; simp [verOk]; omega)]
        · simp only [go_sem]
          refine t_case_intro (fun h5 => ?_) (fun h5 => ?_)
          rotate_left
          · simp only [go_sem]
            simp only [aresult, ares, go_sem]
            rw [hb (by simp at h5; simp [verOk]; omega)]
          · simp only [go_sem]
            refine t_call_intro (valV_den vs[k].v (hf _ (List.getElem_mem hlt))) ?_
            simp only [go_sem]
            refine t_case_intro (fun h6 => ?_) (fun h6 => ?_)
            · simp only [go_sem]
              simp only [aresult, ares, go_sem]
              rw [hb (by simp at h6; simp [verOk, h6])]
            · have hok : verOk fl la vs[k] = true := by simp at h4 h5 h6; simp [verOk, h6]; omega
              simp only [go_sem]
              refine t_case_intro (fun h7 => ?_) (fun h7 => ?_)
              · have hk1 : 0 < k := by simp at h7; omega
                have ew' := unwrap1 k hk1 (by omega)
                have hlt1 : k - 1 < vs.length := by omega
                have h8 : ((k - 1 : Nat) : Int) < (vs.length : Int) := by omega
                have e1 := getD_map Ver.row vs (k - 1) hlt1
                have er1 : vs[k-1].row = [.int .i64 vs[k-1].at_, .int .i64 vs[k-1].v.kind, .int .i64 vs[k-1].v.n, .str vs[k-1].v.s] := rfl
                have epv : pv vs k = some vs[k-1] := by
                  obtain ⟨j, rfl⟩ : ∃ j, k = j + 1 := ⟨k - 1, by omega⟩
                  simp [pv]
                simp only [ew', h8, e1, er1, go_sem]
                refine t_case_intro (fun h9 => ?_) (fun h9 => ?_)
                rotate_left
                · simp only [go_sem]
                  simp only [aresult, ares, go_sem]
                  rw [hb2 (by rw [epv]; simp at h9; simp [verStep]; omega)]
                · simp only [ew', h8, e1, er1, go_sem]
                  refine t_case_intro (fun h10 => ?_) (fun h10 => ?_)
                  · simp only [go_sem]
                    simp only [aresult, ares, go_sem]
                    rw [hb2 (by rw [epv]; show (_ && !vlEq _ _) = false; rw [vlEq_row, h10]; simp)]
                  · simp only [ew, go_sem]
                    refine t_round (k + 1) ⟨by omega, hg hok (by rw [epv]; show (decide _ && !vlEq _ _) = true; rw [vlEq_row, h10]; simp at h9; simp; omega)⟩ (by omega) (by simp) rfl rfl (by simp) rfl
              · have hk1 : k = 0 := by simp at h7; omega
                have epv : pv vs k = none := by rw [hk1]; rfl
                simp only [ew, go_sem]
                refine t_round (k + 1) ⟨by omega, hg hok (by rw [epv])⟩ (by omega) (by simp) rfl rfl (by simp) rfl
      · have h3 : ¬ (k : Int) < (vs.length : Int) := by omega
        simp only [h3, go_sem]
        simp only [aresult, ares, go_sem]
        rw [List.drop_eq_nil_of_le (by omega)] at hall
        rw [eV, hall]
        simp at h2
        simp [h2, versGo]
  · simp only [go_sem]
    simp only [aresult, ares, go_sem]
    simp at h
    rw [h]; rfl

/-! Stores -/
structure Row where
  key : ByteArray
  vs : List Ver
def Row.row (r : Row) : List Atom := [.str r.key, .slice 4 (r.vs.map Ver.row)]
def Row.fit (r : Row) : Prop := r.key.size ≤ 9223372036854775807 ∧ r.vs.length ≤ 9223372036854775807 ∧ ∀ x ∈ r.vs, x.fit
structure Store where
  fl : Int
  la : Int
  rows : List Row
def Store.row (s : Store) : List Atom := [.int .i64 s.fl, .int .i64 s.la, .slice 2 (s.rows.map Row.row)]
def Store.fit (s : Store) : Prop := s.rows.length ≤ 9223372036854775807 ∧ ∀ r ∈ s.rows, r.fit
def strGt (a b : ByteArray) : Bool := !(Op.bytesLess a.toList b.toList || a.toList == b.toList)
def rowsGo (fl la : Int) : Option Row → List Row → Bool
  | _, [] => true
  | p, x :: xs => keyV x.key && (match p with | none => true | some y => strGt x.key y.key) && versV x.vs fl la && rowsGo fl la (some x) xs
def storeV (s : Store) : Bool := decide (0 ≤ s.fl) && decide (s.fl ≤ s.la) && decide (s.la ≤ 1099511627776) && rowsGo s.fl s.la none s.rows
def pr (vs : List Row) : Nat → Option Row
  | 0 => none
  | k + 1 => vs[k]?
theorem rowsGo_step (vs : List Row) (fl la : Int) (k : Nat) (h : k < vs.length) :
    rowsGo fl la (pr vs k) (vs.drop k) = (keyV vs[k].key && (match pr vs k with | none => true | some y => strGt vs[k].key y.key) && versV vs[k].vs fl la && rowsGo fl la (pr vs (k + 1)) (vs.drop (k + 1))) := by
  rw [List.drop_eq_getElem_cons h]
  have e : pr vs (k + 1) = some vs[k] := by simp [pr, h]
  rw [e]; rfl

set_option maxRecDepth 100000 in
set_option maxHeartbeats 1000000 in
theorem storeV_den (s : Store) (hs : s.fit) :
    PDen Try.prog 14 [.agg s.row] (.a (.bool (storeV s))) := by
  obtain ⟨fl, la, vs⟩ := s
  obtain ⟨hn, hf⟩ := hs
  simp only at hn hf
  refine den_of_body k_mvstore_Valid ⟨rfl, Nat.le_of_ble_eq_true rfl, thaw_intro ?_⟩
  unfold c_mvstore_Valid Store.row
  simp only [go_sem]
  refine t_case_intro (fun h => ?_) (fun h => ?_)
  rotate_left
  · simp only [go_sem]
    simp only [aresult, ares, go_sem]
    rw [show storeV ⟨fl, la, vs⟩ = false by simp at h; simp [storeV]; omega]
  · simp only [go_sem]
    refine t_case_intro (fun h1 => ?_) (fun h1 => ?_)
    rotate_left
    · simp only [go_sem]
      simp only [aresult, ares, go_sem]
      rw [show storeV ⟨fl, la, vs⟩ = false by simp at h1; simp [storeV]; omega]
    · simp only [go_sem]
      refine t_case_intro (fun h2 => ?_) (fun h2 => ?_)
      · simp only [go_sem]
        simp only [aresult, ares, go_sem]
        rw [show storeV ⟨fl, la, vs⟩ = false by simp at h2; simp [storeV]; omega]
      · have eV : storeV ⟨fl, la, vs⟩ = rowsGo fl la none vs := by
          simp at h h1 h2
          simp [storeV, h, h1, h2]
        simp only [go_sem]
        refine t_loop_intro (fun k : Nat => k ≤ vs.length ∧ rowsGo fl la none vs = rowsGo fl la (pr vs k) (vs.drop k)) (fun k => vs.length - k) 0 [2, 3, 4, 23, 24, 25, 26, 27, 28, 29, 30, 31, 32, 33, 34, 35, 36, 37, 38, 39, 40, 41, 42, 43, 44, 45, 46, 47, 48, 49, 50, 51, 52, 53, 54, 55, 56, 57] (fun k => [(23, .a (.int .i64 k))]) ⟨by omega, by rfl⟩ (by simp) (fun k => by simp) rfl ?_
        intro k hk0 fr' hfr
        have hk : k ≤ vs.length := hk0.1
        have hall := hk0.2
        clear hk0
        simp only [go_sem] at hfr
        subst hfr
        by_cases hlt : k < vs.length
        · have h3 : (k : Int) < (vs.length : Int) := by omega
          have ew := wrap1 k vs.length hlt hn
          have e := getD_map Row.row vs k hlt
          have er' : vs[k].row = [.str vs[k].key, .slice 4 (vs[k].vs.map Ver.row)] := rfl
          have hfk := hf _ (List.getElem_mem hlt)
          have hb : keyV vs[k].key = false → storeV ⟨fl, la, vs⟩ = false := fun hx => by
            rw [eV, hall, rowsGo_step vs fl la k hlt, hx]; simp
          have hb2 : (match pr vs k with | none => true | some y => strGt vs[k].key y.key) = false → storeV ⟨fl, la, vs⟩ = false := fun hx => by
            rw [eV, hall, rowsGo_step vs fl la k hlt, hx]; simp
          have hb3 : versV vs[k].vs fl la = false → storeV ⟨fl, la, vs⟩ = false := fun hx => by
            rw [eV, hall, rowsGo_step vs fl la k hlt, hx]; simp
          have hg : keyV vs[k].key = true → (match pr vs k with | none => true | some y => strGt vs[k].key y.key) = true → versV vs[k].vs fl la = true → rowsGo fl la none vs = rowsGo fl la (pr vs (k + 1)) (vs.drop (k + 1)) := fun hx hy hz => by
            rw [hall, rowsGo_step vs fl la k hlt, hx, hy, hz]; rfl
          simp only [h3, e, er', go_sem]
          refine t_call_intro (keyV_den vs[k].key hfk.1) ?_
          simp only [go_sem]
          refine t_case_intro (fun h4 => ?_) (fun h4 => ?_)
          rotate_left
          · simp only [go_sem]
            simp only [aresult, ares, go_sem]
            rw [hb (by simpa using h4)]
          · have hkey : keyV vs[k].key = true := by simpa using h4
            simp only [go_sem]
            refine t_case_intro (fun h5 => ?_) (fun h5 => ?_)
            · have hk1 : 0 < k := by simp at h5; omega
              have ew' := unwrap1 k hk1 (by omega)
              have hlt1 : k - 1 < vs.length := by omega
              have h8 : ((k - 1 : Nat) : Int) < (vs.length : Int) := by omega
              have e1 := getD_map Row.row vs (k - 1) hlt1
              have er1 : vs[k-1].row = [.str vs[k-1].key, .slice 4 (vs[k-1].vs.map Ver.row)] := rfl
              have epv : pr vs k = some vs[k-1] := by
                obtain ⟨j, rfl⟩ : ∃ j, k = j + 1 := ⟨k - 1, by omega⟩
                simp [pr]
              simp only [ew', h8, e1, er1, go_sem]
              refine t_case_intro (fun h9 => ?_) (fun h9 => ?_)
              rotate_left
              · simp only [go_sem]
                simp only [aresult, ares, go_sem]
                rw [hb2 (by rw [epv]; exact h9)]
              · simp only [go_sem]
                refine t_call_intro (rowV_den vs[k].key vs[k].vs fl la hfk.2.2 hfk.2.1) ?_
                simp only [go_sem]
                refine t_case_intro (fun h10 => ?_) (fun h10 => ?_)
                · simp only [go_sem]
                  simp only [aresult, ares, go_sem]
                  rw [hb3 (by simpa using h10)]
                · simp only [ew, go_sem]
                  refine t_round (k + 1) ⟨by omega, hg hkey (by rw [epv]; exact h9) (by simpa using h10)⟩ (by omega) (by simp) rfl rfl (by simp) rfl
            · have hk1 : k = 0 := by simp at h5; omega
              have epv : pr vs k = none := by rw [hk1]; rfl
              simp only [go_sem]
              refine t_call_intro (rowV_den vs[k].key vs[k].vs fl la hfk.2.2 hfk.2.1) ?_
              simp only [go_sem]
              refine t_case_intro (fun h10 => ?_) (fun h10 => ?_)
              · simp only [go_sem]
                simp only [aresult, ares, go_sem]
                rw [hb3 (by simpa using h10)]
              · simp only [ew, go_sem]
                refine t_round (k + 1) ⟨by omega, hg hkey (by rw [epv]) (by simpa using h10)⟩ (by omega) (by simp) rfl rfl (by simp) rfl
        · have h3 : ¬ (k : Int) < (vs.length : Int) := by omega
          simp only [h3, go_sem]
          simp only [aresult, ares, go_sem]
          rw [List.drop_eq_nil_of_le (by omega)] at hall
          rw [eV, hall]
          simp [rowsGo]
end Go.Proofs.Ytlfebjehmabejaa
