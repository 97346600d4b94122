/- Chapter 22: equality of stores. -/
import Derived.Test.YtlfebjehmabejaaRe
set_option linter.unusedSimpArgs false
set_option linter.unusedVariables false
namespace Go.Proofs.Ytlfebjehmabejaa
open Go Ab
attribute [local irreducible] awp aops aop asoft aeff aloop acall acallI acallT
attribute [local go_sem] Vl.row Ver.row Row.row Store.row Rg.row Pr.row

def verEq (a b : Ver) : Bool := (a.at_ == b.at_) && vlEq a.v b.v
def versEq (p q : List Ver) : Bool := (p.zip q).all fun z => verEq z.1 z.2
def rowEq (x y : Row) : Bool := (x.key.toList == y.key.toList) && (x.vs.length == y.vs.length) && versEq x.vs y.vs
def rowsEq (p q : List Row) : Bool := (p.zip q).all fun z => rowEq z.1 z.2
def storeEq (a b : Store) : Bool := (a.fl == b.fl) && (a.la == b.la) && (a.rows.length == b.rows.length) && rowsEq a.rows b.rows
theorem zip_step {α : Type} (f : α × α → Bool) (p q : List α) (k : Nat) (h : k < p.length) (h' : k < q.length) : ((p.zip q).drop k).all f = (f (p[k], q[k]) && ((p.zip q).drop (k + 1)).all f) := by
  have hk : k < (p.zip q).length := by rw [List.length_zip]; omega
  rw [List.drop_eq_getElem_cons hk, List.all_cons, List.getElem_zip]
theorem zip_end {α : Type} (f : α × α → Bool) (p q : List α) (k : Nat) (h : p.length ≤ k) : ((p.zip q).drop k).all f = true := by
  rw [List.drop_eq_nil_of_le (by rw [List.length_zip]; omega)]; rfl

set_option maxRecDepth 100000 in
set_option maxHeartbeats 4000000 in
theorem ssame_den (a b : Store) (ha : a.rows.length * 40 ≤ 140737488351232 ∧ ∀ r ∈ a.rows, r.vs.length * 40 ≤ 140737488351232) :
    PDen Try.prog 11 [.agg a.row, .agg b.row] (.a (.bool (storeEq a b))) := by
  refine den_of_body k_ref22_Same ⟨rfl, Nat.le_of_ble_eq_true rfl, thaw_intro ?_⟩
  unfold c_ref22_Same
  simp only [go_sem]
  first | refine t_case_dec (fun h0 => ?_) (fun h0 => ?_) | refine t_case_ndec (fun h0 => ?_) (fun h0 => ?_) | refine t_case_eqI (fun h0 => ?_) (fun h0 => ?_) | refine t_case_neI (fun h0 => ?_) (fun h0 => ?_) | refine t_case_not (fun h0 => ?_) (fun h0 => ?_) | refine t_case_intro (fun h0 => ?_) (fun h0 => ?_)
  · simp only [go_sem]
    simp only [aresult, ares, go_sem]
    rw [show storeEq a b = false by simp [storeEq]; intro h; simp [h] at h0]
  simp only [h0, go_sem]
  first | refine t_case_dec (fun h1 => ?_) (fun h1 => ?_) | refine t_case_ndec (fun h1 => ?_) (fun h1 => ?_) | refine t_case_eqI (fun h1 => ?_) (fun h1 => ?_) | refine t_case_neI (fun h1 => ?_) (fun h1 => ?_) | refine t_case_not (fun h1 => ?_) (fun h1 => ?_) | refine t_case_intro (fun h1 => ?_) (fun h1 => ?_)
  · simp only [go_sem]
    simp only [aresult, ares, go_sem]
    rw [show storeEq a b = false by simp [storeEq]; intro _ h; simp [h] at h1]
  simp only [h1, go_sem]
  first | refine t_case_dec (fun h2 => ?_) (fun h2 => ?_) | refine t_case_ndec (fun h2 => ?_) (fun h2 => ?_) | refine t_case_eqI (fun h2 => ?_) (fun h2 => ?_) | refine t_case_neI (fun h2 => ?_) (fun h2 => ?_) | refine t_case_not (fun h2 => ?_) (fun h2 => ?_) | refine t_case_intro (fun h2 => ?_) (fun h2 => ?_)
  rotate_left
  · simp only [go_sem]
    simp only [aresult, ares, go_sem]
    rw [show storeEq a b = false by simp [storeEq]; omega]
  have h2n : a.rows.length = b.rows.length := by omega
  have eS : storeEq a b = rowsEq a.rows b.rows := by
    simp only [bne_eq_false_iff_eq] at h0 h1
    simp [storeEq, h0, h1, h2n]
  simp only [h2, go_sem]
  refine t_loop_intro (fun k : Nat => k ≤ a.rows.length ∧ (rowsEq a.rows b.rows = ((a.rows.zip b.rows).drop k).all (fun z => rowEq z.1 z.2))) (fun k => a.rows.length - k) 0 [4, 5, 6, 7, 8, 30, 31, 32, 33, 34, 35, 36, 37, 38, 39, 40, 41, 42, 43, 44, 45, 46, 47, 48, 49, 50, 51, 52, 53, 54, 55, 56, 57, 58, 59, 60, 61, 62, 63, 64, 65, 66, 67, 68, 69, 70, 71, 72, 73, 74, 75, 76, 77, 78] (fun k => [(5, .a (.int .i64 k))]) ⟨by omega, by rfl⟩ (by simp) (fun k => by simp) rfl ?_
  intro k hk0 fr_ hfr
  have hk : k ≤ a.rows.length := hk0.1
  have hall := hk0.2
  clear hk0
  simp only [go_sem] at hfr
  subst hfr
  by_cases hlt : k < a.rows.length
  · have h3 : (k : Int) < (a.rows.length : Int) := by omega
    have hlb : k < b.rows.length := by omega
    have h3b : (k : Int) < (b.rows.length : Int) := by omega
    have e := getD_map Row.row a.rows k hlt
    have eb := getD_map Row.row b.rows k hlb
    have er : a.rows[k].row = [.str a.rows[k].key, .slice 4 (a.rows[k].vs.map Ver.row)] := rfl
    have erb : b.rows[k].row = [.str b.rows[k].key, .slice 4 (b.rows[k].vs.map Ver.row)] := rfl
    have ew := wrap1 k a.rows.length hlt (by omega)
    have ez := zip_step (fun z => rowEq z.1 z.2) a.rows b.rows k hlt hlb
    simp only [h3, e, er, go_sem]
    refine t_two_intro ?_ ?_
    all_goals
      simp only [h3, e, er, eb, erb, h3b, go_sem]
      first | refine t_case_dec (fun h4 => ?_) (fun h4 => ?_) | refine t_case_ndec (fun h4 => ?_) (fun h4 => ?_) | refine t_case_eqI (fun h4 => ?_) (fun h4 => ?_) | refine t_case_neI (fun h4 => ?_) (fun h4 => ?_) | refine t_case_not (fun h4 => ?_) (fun h4 => ?_) | refine t_case_intro (fun h4 => ?_) (fun h4 => ?_)
      rotate_left
      · simp only [go_sem]
        simp only [aresult, ares, go_sem]
        rw [eS, hall, ez, show rowEq a.rows[k] b.rows[k] = false by simp only [rowEq, h4, Bool.false_and]]
        rfl
      simp only [go_sem]
      first | refine t_case_dec (fun h5 => ?_) (fun h5 => ?_) | refine t_case_ndec (fun h5 => ?_) (fun h5 => ?_) | refine t_case_eqI (fun h5 => ?_) (fun h5 => ?_) | refine t_case_neI (fun h5 => ?_) (fun h5 => ?_) | refine t_case_not (fun h5 => ?_) (fun h5 => ?_) | refine t_case_intro (fun h5 => ?_) (fun h5 => ?_)
      rotate_left
      · simp only [go_sem]
        simp only [aresult, ares, go_sem]
        rw [eS, hall, ez, show rowEq a.rows[k] b.rows[k] = false by simp only [rowEq]; rw [show (a.rows[k].vs.length == b.rows[k].vs.length) = false by simp; omega]; simp]
        rfl
      have hvm := ha.2 _ (List.getElem_mem hlt)
      simp only [h5, go_sem]
      refine t_loop_intro (fun j : Nat => j ≤ a.rows[k].vs.length ∧ (versEq a.rows[k].vs b.rows[k].vs = ((a.rows[k].vs.zip b.rows[k].vs).drop j).all (fun z => verEq z.1 z.2))) (fun j => a.rows[k].vs.length - j) 0 [4, 8, 61, 62, 63, 64, 65, 66, 67, 68, 69, 70, 71, 72, 73, 74, 75, 76, 77, 78] (fun j => [(8, .a (.int .i64 j))]) ⟨by omega, by rfl⟩ (by simp) (fun j => by simp) rfl ?_
      intro j hk0j fr_ hfr
      have hkj : j ≤ a.rows[k].vs.length := hk0j.1
      have hallj := hk0j.2
      clear hk0j
      simp only [go_sem] at hfr
      subst hfr
      by_cases hltj : j < a.rows[k].vs.length
      · have h6 : (j : Int) < (a.rows[k].vs.length : Int) := by omega
        have hljb : j < b.rows[k].vs.length := by omega
        have h6b : (j : Int) < (b.rows[k].vs.length : Int) := by omega
        have ej := getD_map Ver.row a.rows[k].vs j hltj
        have ejb := getD_map Ver.row b.rows[k].vs j hljb
        have erj : a.rows[k].vs[j].row = [.int .i64 a.rows[k].vs[j].at_, .int .i64 a.rows[k].vs[j].v.kind, .int .i64 a.rows[k].vs[j].v.n, .str a.rows[k].vs[j].v.s] := rfl
        have erjb : b.rows[k].vs[j].row = [.int .i64 b.rows[k].vs[j].at_, .int .i64 b.rows[k].vs[j].v.kind, .int .i64 b.rows[k].vs[j].v.n, .str b.rows[k].vs[j].v.s] := rfl
        have ewj := wrap1 j a.rows[k].vs.length hltj (by omega)
        have ezj := zip_step (fun z => verEq z.1 z.2) a.rows[k].vs b.rows[k].vs j hltj hljb
        simp only [h6, ej, erj, h6b, ejb, erjb, go_sem]
        first | refine t_case_dec (fun h7 => ?_) (fun h7 => ?_) | refine t_case_ndec (fun h7 => ?_) (fun h7 => ?_) | refine t_case_eqI (fun h7 => ?_) (fun h7 => ?_) | refine t_case_neI (fun h7 => ?_) (fun h7 => ?_) | refine t_case_not (fun h7 => ?_) (fun h7 => ?_) | refine t_case_intro (fun h7 => ?_) (fun h7 => ?_)
        · have h8 : verEq a.rows[k].vs[j] b.rows[k].vs[j] = true := by simpa [verEq, vlEq, Bool.and_assoc] using h7
          simp only [ewj, go_sem]
          refine t_round (j + 1) ⟨by omega, (by rw [hallj, ezj, h8]; rfl)⟩ (by omega) (by simp) rfl rfl (by simp) rfl
        · have h8 : verEq a.rows[k].vs[j] b.rows[k].vs[j] = false := by simpa [verEq, vlEq, Bool.and_assoc] using h7
          simp only [go_sem]
          simp only [aresult, ares, go_sem]
          rw [eS, hall, ez, show rowEq a.rows[k] b.rows[k] = false by simp only [rowEq, hallj, ezj, h8, Bool.false_and, Bool.and_false]]
          rfl
      · have h6 : ¬ (j : Int) < (a.rows[k].vs.length : Int) := by omega
        have h8 : rowEq a.rows[k] b.rows[k] = true := by
          simp only [rowEq, h4, hallj, zip_end _ _ _ _ (show a.rows[k].vs.length ≤ j by omega)]
          simp; omega
        simp only [h6, ew, go_sem]
        refine t_round (k + 1) ⟨by omega, (by rw [hall, ez, h8]; rfl)⟩ (by omega) (by simp) rfl rfl (by simp) rfl
  · have h3 : ¬ (k : Int) < (a.rows.length : Int) := by omega
    simp only [h3, go_sem]
    simp only [aresult, ares, go_sem]
    rw [eS, hall, zip_end _ _ _ _ (by omega)]
end Go.Proofs.Ytlfebjehmabejaa
