/- Chapter 22: small stores, and the example of the chapter, which holds. -/
import Derived.Test.YtlfebjehmabejaaMwD
set_option linter.unusedSimpArgs false
set_option linter.unusedVariables false
namespace Go.Proofs.Ytlfebjehmabejaa
open Go Ab
attribute [local irreducible] awp aops aop asoft aeff aloop acall acallI acallT
attribute [local go_sem] Vl.row Ver.row Row.row Store.row Rg.row Pr.row

def vN (n : Int) : Vl := ⟨1, n, ⟨#[]⟩⟩
def xA : ByteArray := ⟨#[97]⟩
def xB : ByteArray := ⟨#[98]⟩
def exL1 : List Pr := [⟨xA, vN 1⟩]
def exL2 : List Pr := [⟨xA, vN 2⟩, ⟨xB, vN 1⟩]
def exL3 : List Pr := [⟨xA, vN 2⟩, ⟨xB, vl0⟩]
def exS1 : Store := ⟨5, 5, [⟨xA, [⟨5, vN 1⟩]⟩]⟩
def exR2 : Nat → List Row
  | 0 => exS1.rows
  | 1 => [⟨xA, [⟨5, vN 1⟩, ⟨7, vN 2⟩]⟩]
  | _ => [⟨xA, [⟨5, vN 1⟩, ⟨7, vN 2⟩]⟩, ⟨xB, [⟨7, vN 1⟩]⟩]
def exS2 : Store := ⟨5, 7, exR2 2⟩
def exR3 : Nat → List Row
  | 0 => exS2.rows
  | 1 => exS2.rows
  | _ => [⟨xA, [⟨5, vN 1⟩, ⟨7, vN 2⟩]⟩, ⟨xB, [⟨7, vN 1⟩, ⟨8, vl0⟩]⟩]
def exS3 : Store := ⟨5, 8, exR3 2⟩
def exS4 : Store := ⟨8, 8, [⟨xA, [⟨8, vN 2⟩]⟩]⟩

theorem number_den (n : Int) : PDen Try.prog 21 [.a (.int .i64 n)] (.agg [.int .i64 1, .int .i64 n, .str ⟨#[]⟩]) := by
  refine den_of_body k_law22_number ⟨rfl, Nat.le_of_ble_eq_true rfl, thaw_intro ?_⟩
  unfold c_law22_number
  simp only [go_sem]
  simp only [aresult, ares, go_sem]

theorem ex1 : PDen Try.prog 12 [.a (.slice 4 [[.str ⟨#[97]⟩, .int .i64 1, .int .i64 1, .str ⟨#[]⟩]]), .a (.int .i64 5)] (.tup [.agg [.int .i64 5, .int .i64 5, .slice 2 [[.str ⟨#[97]⟩, .slice 4 [[.int .i64 5, .int .i64 1, .int .i64 1, .str ⟨#[]⟩]]]]], .a (.int .i64 0)]) := by
  have h := new_den exL1 5 (by decide) (by intro p hp; simp only [exL1, List.mem_singleton] at hp; subst hp; exact ⟨by decide, by decide⟩)
  have ok : newOk exL1 5 = true := by decide +kernel
  rw [show newA exL1 5 = .tup [.agg (newS exL1 5).row, .a (.int .i64 0)] from if_pos ok] at h
  exact h
theorem exfit {s : Store} (h : decide (s.rows.length ≤ 10) && s.rows.all (fun r => decide (r.key.size ≤ 10) && decide (r.vs.length ≤ 10) && r.vs.all fun x => decide (x.v.s.size ≤ 10)) = true) : s.fit ∧ s.small ∧ s.cutable := by
  simp only [Bool.and_eq_true, decide_eq_true_eq, List.all_eq_true] at h
  refine ⟨⟨by omega, fun r hr => ⟨?_, ?_, fun x hx => ?_⟩⟩, ⟨by omega, fun r hr => ⟨?_, ?_⟩⟩, ⟨by omega, fun r hr => ?_⟩⟩
  · have := (h.2 r hr).1.1; omega
  · have := (h.2 r hr).1.2; omega
  · have := (h.2 r hr).2 x hx; unfold Ver.fit; omega
  · have := (h.2 r hr).1.2; omega
  · have := (h.2 r hr).1.1; omega
  · have := (h.2 r hr).1.2; omega
theorem ex2 : PDen Try.prog 9 [.agg [.int .i64 5, .int .i64 5, .slice 2 [[.str ⟨#[97]⟩, .slice 4 [[.int .i64 5, .int .i64 1, .int .i64 1, .str ⟨#[]⟩]]]]], .a (.int .i64 7), .a (.slice 4 [[.str ⟨#[97]⟩, .int .i64 1, .int .i64 2, .str ⟨#[]⟩], [.str ⟨#[98]⟩, .int .i64 1, .int .i64 1, .str ⟨#[]⟩]])] (.tup [.agg [.int .i64 5, .int .i64 7, .slice 2 [[.str ⟨#[97]⟩, .slice 4 [[.int .i64 5, .int .i64 1, .int .i64 1, .str ⟨#[]⟩], [.int .i64 7, .int .i64 1, .int .i64 2, .str ⟨#[]⟩]]], [.str ⟨#[98]⟩, .slice 4 [[.int .i64 7, .int .i64 1, .int .i64 1, .str ⟨#[]⟩]]]]], .a (.int .i64 0)]) := by
  have hf := exfit (s := exS1) (by decide +kernel)
  refine apply_den exS1 hf.1 hf.2.1 7 exL2 (by decide) ?_ (by decide +kernel) (by decide +kernel) (by decide) exR2 rfl ?_ ?_
  · intro p hp
    simp only [exL2, List.mem_cons, List.not_mem_nil, or_false] at hp
    rcases hp with rfl | rfl <;> exact ⟨by decide, by decide⟩
  · intro k
    match k with
    | 0 => exact ⟨by decide, fun r hr => by simp only [exR2, exS1, List.mem_cons, List.not_mem_nil, or_false] at hr; subst hr; decide⟩
    | 1 => exact ⟨by decide, fun r hr => by simp only [exR2, exS1, List.mem_cons, List.not_mem_nil, or_false] at hr; subst hr; decide⟩
    | _ + 2 => exact ⟨by simp [exR2], fun r hr => by simp only [exR2, List.mem_cons, List.not_mem_nil, or_false] at hr; rcases hr with rfl | rfl <;> decide⟩
  · intro k hk
    match k with
    | 0 => exact ⟨0, ⟨by decide, fun i hi h => absurd h (by omega), fun i hi _ => by
        match i with
        | 0 => show ¬ cmpV xA xA < 0; decide +kernel
        | i + 1 => exact absurd hi (by simp [exR2, exS1])⟩, .more (by decide) (show foundV (exR2 0) 0 xA = true by decide +kernel) (show vlEq (vlAt [⟨5, vN 1⟩] 5) (vN 2) = false by decide +kernel) rfl⟩
    | 1 => exact ⟨1, ⟨by decide, fun i hi h => by
        match i with
        | 0 => show cmpV xA xB < 0; decide +kernel
        | i + 1 => exact absurd h (by omega), fun i hi h => absurd hi (by simp [exR2]; omega)⟩, .new (show foundV (exR2 1) 1 xB = false by decide +kernel) (show ¬ (1 : Int) = 0 by decide) (fun H hb => insEnd H (exR2 1) ⟨xB, [⟨7, vN 1⟩]⟩ (by decide) hb)⟩
    | _ + 2 => exact absurd hk (by simp [exL2])
theorem ex3 : PDen Try.prog 9 [.agg [.int .i64 5, .int .i64 7, .slice 2 [[.str ⟨#[97]⟩, .slice 4 [[.int .i64 5, .int .i64 1, .int .i64 1, .str ⟨#[]⟩], [.int .i64 7, .int .i64 1, .int .i64 2, .str ⟨#[]⟩]]], [.str ⟨#[98]⟩, .slice 4 [[.int .i64 7, .int .i64 1, .int .i64 1, .str ⟨#[]⟩]]]]], .a (.int .i64 8), .a (.slice 4 [[.str ⟨#[97]⟩, .int .i64 1, .int .i64 2, .str ⟨#[]⟩], [.str ⟨#[98]⟩, .int .i64 0, .int .i64 0, .str ⟨#[]⟩]])] (.tup [.agg [.int .i64 5, .int .i64 8, .slice 2 [[.str ⟨#[97]⟩, .slice 4 [[.int .i64 5, .int .i64 1, .int .i64 1, .str ⟨#[]⟩], [.int .i64 7, .int .i64 1, .int .i64 2, .str ⟨#[]⟩]]], [.str ⟨#[98]⟩, .slice 4 [[.int .i64 7, .int .i64 1, .int .i64 1, .str ⟨#[]⟩], [.int .i64 8, .int .i64 0, .int .i64 0, .str ⟨#[]⟩]]]]], .a (.int .i64 0)]) := by
  have hf := exfit (s := exS2) (by decide +kernel)
  refine apply_den exS2 hf.1 hf.2.1 8 exL3 (by decide) ?_ (by decide +kernel) (by decide +kernel) (by decide) exR3 rfl ?_ ?_
  · intro p hp
    simp only [exL3, List.mem_cons, List.not_mem_nil, or_false] at hp
    rcases hp with rfl | rfl <;> exact ⟨by decide, by decide⟩
  · intro k
    match k with
    | 0 => exact ⟨by decide, fun r hr => by simp only [exR3, exS2, exR2, List.mem_cons, List.not_mem_nil, or_false] at hr; rcases hr with rfl | rfl <;> decide⟩
    | 1 => exact ⟨by decide, fun r hr => by simp only [exR3, exS2, exR2, List.mem_cons, List.not_mem_nil, or_false] at hr; rcases hr with rfl | rfl <;> decide⟩
    | _ + 2 => exact ⟨by simp [exR3], fun r hr => by simp only [exR3, List.mem_cons, List.not_mem_nil, or_false] at hr; rcases hr with rfl | rfl <;> decide⟩
  · intro k hk
    match k with
    | 0 => exact ⟨0, ⟨by decide, fun i hi h => absurd h (by omega), fun i hi _ => by
        match i with
        | 0 => show ¬ cmpV xA xA < 0; decide +kernel
        | 1 => show ¬ cmpV xB xA < 0; decide +kernel
        | i + 2 => exact absurd hi (by simp [exR3, exS2, exR2])⟩, .same (by decide) (show foundV (exR3 0) 0 xA = true by decide +kernel) (show vlEq (vlAt [⟨5, vN 1⟩, ⟨7, vN 2⟩] 7) (vN 2) = true by decide +kernel) rfl⟩
    | 1 => exact ⟨1, ⟨by decide, fun i hi h => by
        match i with
        | 0 => show cmpV xA xB < 0; decide +kernel
        | i + 1 => exact absurd h (by omega), fun i hi h => by
        match i with
        | 0 => exact absurd h (by omega)
        | 1 => show ¬ cmpV xB xB < 0; decide +kernel
        | i + 2 => exact absurd hi (by simp [exR3, exS2, exR2])⟩, .more (by decide) (show foundV (exR3 1) 1 xB = true by decide +kernel) (show vlEq (vlAt [⟨7, vN 1⟩] 7) vl0 = false by decide +kernel) rfl⟩
    | _ + 2 => exact absurd hk (by simp [exL3])
theorem ex4 : PDen Try.prog 22 [.agg [.int .i64 5, .int .i64 8, .slice 2 [[.str ⟨#[97]⟩, .slice 4 [[.int .i64 5, .int .i64 1, .int .i64 1, .str ⟨#[]⟩], [.int .i64 7, .int .i64 1, .int .i64 2, .str ⟨#[]⟩]]], [.str ⟨#[98]⟩, .slice 4 [[.int .i64 7, .int .i64 1, .int .i64 1, .str ⟨#[]⟩], [.int .i64 8, .int .i64 0, .int .i64 0, .str ⟨#[]⟩]]]]], .a (.str ⟨#[97]⟩), .a (.int .i64 6)] (.tup [.agg [.int .i64 1, .int .i64 1, .str ⟨#[]⟩], .a (.int .i64 0)]) := by
  have hf := exfit (s := exS3) (by decide +kernel)
  have h := mget_den exS3 hf.1 hf.2.1.1 xA (by decide) 6
  rw [show (getV exS3 xA 6) = vN 1 by kernel_rfl, show getE exS3 xA 6 = 0 by decide +kernel] at h
  exact h
theorem ex5 : PDen Try.prog 22 [.agg [.int .i64 5, .int .i64 8, .slice 2 [[.str ⟨#[97]⟩, .slice 4 [[.int .i64 5, .int .i64 1, .int .i64 1, .str ⟨#[]⟩], [.int .i64 7, .int .i64 1, .int .i64 2, .str ⟨#[]⟩]]], [.str ⟨#[98]⟩, .slice 4 [[.int .i64 7, .int .i64 1, .int .i64 1, .str ⟨#[]⟩], [.int .i64 8, .int .i64 0, .int .i64 0, .str ⟨#[]⟩]]]]], .a (.str ⟨#[97]⟩), .a (.int .i64 9)] (.tup [.agg [.int .i64 0, .int .i64 0, .str ⟨#[]⟩], .a (.int .i64 15)]) := by
  have hf := exfit (s := exS3) (by decide +kernel)
  have h := mget_den exS3 hf.1 hf.2.1.1 xA (by decide) 9
  rw [show (getV exS3 xA 9) = vl0 by kernel_rfl, show getE exS3 xA 9 = 15 by decide +kernel] at h
  exact h
theorem ex6 : PDen Try.prog 15 [.agg [.int .i64 5, .int .i64 8, .slice 2 [[.str ⟨#[97]⟩, .slice 4 [[.int .i64 5, .int .i64 1, .int .i64 1, .str ⟨#[]⟩], [.int .i64 7, .int .i64 1, .int .i64 2, .str ⟨#[]⟩]]], [.str ⟨#[98]⟩, .slice 4 [[.int .i64 7, .int .i64 1, .int .i64 1, .str ⟨#[]⟩], [.int .i64 8, .int .i64 0, .int .i64 0, .str ⟨#[]⟩]]]]], .a (.int .i64 8)] (.tup [.agg [.int .i64 8, .int .i64 8, .slice 2 [[.str ⟨#[97]⟩, .slice 4 [[.int .i64 8, .int .i64 1, .int .i64 2, .str ⟨#[]⟩]]]]], .a (.int .i64 0)]) := by
  have hf := exfit (s := exS3) (by decide +kernel)
  have h := trunc_den exS3 hf.1 hf.2.2 8
  rw [show truncA exS3 8 = .tup [.agg exS4.row, .a (.int .i64 0)] by kernel_rfl] at h
  exact h
theorem ex7 : PDen Try.prog 23 [.agg [.int .i64 5, .int .i64 8, .slice 2 [[.str ⟨#[97]⟩, .slice 4 [[.int .i64 5, .int .i64 1, .int .i64 1, .str ⟨#[]⟩], [.int .i64 7, .int .i64 1, .int .i64 2, .str ⟨#[]⟩]]], [.str ⟨#[98]⟩, .slice 4 [[.int .i64 7, .int .i64 1, .int .i64 1, .str ⟨#[]⟩], [.int .i64 8, .int .i64 0, .int .i64 0, .str ⟨#[]⟩]]]]]] (.a (.int .i64 4)) := by
  have h := versions_den exS3 (by decide)
  rw [show versW exS3.rows = 4 by decide +kernel] at h
  exact h
theorem ex8 : PDen Try.prog 23 [.agg [.int .i64 8, .int .i64 8, .slice 2 [[.str ⟨#[97]⟩, .slice 4 [[.int .i64 8, .int .i64 1, .int .i64 2, .str ⟨#[]⟩]]]]]] (.a (.int .i64 1)) := by
  have h := versions_den exS4 (by decide)
  rw [show versW exS4.rows = 1 by decide +kernel] at h
  exact h
set_option maxRecDepth 100000 in
set_option maxHeartbeats 2000000 in
theorem lives_den : PDen Try.prog 8 [] (.a (.bool true)) := by
  refine den_of_body k_law22_lives ⟨rfl, Nat.le_of_ble_eq_true rfl, thaw_intro ?_⟩
  unfold c_law22_lives
  simp only [go_sem]
  refine t_call_intro (number_den 1) ?_
  simp only [go_sem]
  refine t_call_intro (ex1) ?_
  simp only [go_sem]
  refine t_call_intro (number_den 2) ?_
  simp only [go_sem]
  refine t_call_intro (number_den 1) ?_
  simp only [go_sem]
  refine t_call_intro (ex2) ?_
  simp only [go_sem]
  refine t_call_intro (number_den 2) ?_
  simp only [go_sem]
  refine t_call_intro (ex3) ?_
  simp only [go_sem]
  refine t_call_intro (ex4) ?_
  simp only [go_sem]
  refine t_call_intro (ex5) ?_
  simp only [go_sem]
  refine t_call_intro (ex6) ?_
  have e0 : ((0 : Int) == 0) = true := by decide
  have e1 : ((1 : Int) == 1) = true := by decide
  have e4 : ((4 : Int) == 4) = true := by decide
  have e7 : (((1 : Nat) : Int) == 1) = true := by decide
  have e5 : ((15 : Int) == 15) = true := by decide
  have e6 : ((⟨#[]⟩ : ByteArray).toList == (⟨#[]⟩ : ByteArray).toList) = true := by decide +kernel
  simp only [e0, go_sem]
  refine t_call_intro (number_den 1) ?_
  simp only [e0, e1, e4, e5, e6, e7, Bool.true_and, go_sem]
  refine t_call_intro (ex7) ?_
  simp only [e0, e1, e4, e5, e6, e7, Bool.true_and, go_sem]
  refine t_call_intro (ex8) ?_
  simp only [e0, e1, e4, e5, e6, e7, Bool.true_and, go_sem]
  simp only [aresult, ares, go_sem]

def fewVer (x : Ver) : Bool := decide (x.v.s.size ≤ 200)
def fewRow (r : Row) : Bool := decide (r.vs.length ≤ 12) && decide (r.key.size ≤ 200) && r.vs.all fewVer
def fewS (s : Store) (n : Int) : Bool := decide ((s.rows.length : Int) ≤ n) && s.rows.all fewRow
theorem allD_step {α : Type} (f : α → Bool) (l : List α) (k : Nat) (h : k < l.length) : (l.drop k).all f = (f l[k] && (l.drop (k + 1)).all f) := by
  rw [List.drop_eq_getElem_cons h, List.all_cons]
set_option maxRecDepth 100000 in
set_option maxHeartbeats 2000000 in
theorem few_den (s : Store) (hs : s.small) (n : Int) : PDen Try.prog 6 [.agg s.row, .a (.int .i64 n)] (.a (.bool (fewS s n))) := by
  refine den_of_body k_ref22_Few ⟨rfl, Nat.le_of_ble_eq_true rfl, thaw_intro ?_⟩
  unfold c_ref22_Few
  simp only [go_sem]
  first | refine t_case_dec (fun h0 => ?_) (fun h0 => ?_) | refine t_case_ndec (fun h0 => ?_) (fun h0 => ?_) | refine t_case_eqI (fun h0 => ?_) (fun h0 => ?_) | refine t_case_neI (fun h0 => ?_) (fun h0 => ?_) | refine t_case_not (fun h0 => ?_) (fun h0 => ?_) | refine t_case_intro (fun h0 => ?_) (fun h0 => ?_)
  · simp only [go_sem]
    simp only [aresult, ares, go_sem]
    simp [fewS]; omega
  simp only [go_sem]
  have eS : fewS s n = s.rows.all fewRow := by simp [fewS]; omega
  refine t_loop_intro (fun k : Nat => k ≤ s.rows.length ∧ (s.rows.all fewRow = (s.rows.drop k).all fewRow)) (fun k => s.rows.length - k) 0 [4, 5, 6, 12, 13, 14, 15, 16, 17, 18, 19, 20, 21, 22, 23, 24, 25, 26, 27, 28, 29, 30, 31, 32, 33, 34, 35, 36, 37, 38, 39, 40, 41, 42, 43, 44, 45, 46, 47, 48, 49, 50, 51, 52, 53, 54, 55, 56, 57, 58, 59, 60] (fun k => [(5, .a (.int .i64 k))]) ⟨by omega, by simp⟩ (by simp) (fun k => by simp) rfl ?_
  intro k hk0 fr_ hfr
  have hk : k ≤ s.rows.length := hk0.1
  have hall := hk0.2
  clear hk0
  simp only [go_sem] at hfr
  subst hfr
  by_cases hlt : k < s.rows.length
  · have h1 : (k : Int) < (s.rows.length : Int) := by omega
    have e := getD_map Row.row s.rows k hlt
    have er : s.rows[k].row = [.str s.rows[k].key, .slice 4 (s.rows[k].vs.map Ver.row)] := rfl
    have hsm := hs.1
    have hvm := (hs.2 _ (List.getElem_mem hlt)).1
    have ew := wrap1 k s.rows.length hlt (by omega)
    have ea := allD_step fewRow s.rows k hlt
    have ef : fewRow s.rows[k] = (decide (s.rows[k].vs.length ≤ 12) && decide (s.rows[k].key.size ≤ 200) && s.rows[k].vs.all fewVer) := rfl
    simp only [h1, e, er, go_sem]
    first | refine t_case_dec (fun h2 => ?_) (fun h2 => ?_) | refine t_case_ndec (fun h2 => ?_) (fun h2 => ?_) | refine t_case_eqI (fun h2 => ?_) (fun h2 => ?_) | refine t_case_neI (fun h2 => ?_) (fun h2 => ?_) | refine t_case_not (fun h2 => ?_) (fun h2 => ?_) | refine t_case_intro (fun h2 => ?_) (fun h2 => ?_)
    · have : fewRow s.rows[k] = false := by rw [ef]; simp; omega
      simp only [h2, go_sem]
      simp only [aresult, ares, go_sem]
      rw [eS, hall, ea, this]; simp
    simp only [h1, e, er, h2, go_sem]
    first | refine t_case_dec (fun h3 => ?_) (fun h3 => ?_) | refine t_case_ndec (fun h3 => ?_) (fun h3 => ?_) | refine t_case_eqI (fun h3 => ?_) (fun h3 => ?_) | refine t_case_neI (fun h3 => ?_) (fun h3 => ?_) | refine t_case_not (fun h3 => ?_) (fun h3 => ?_) | refine t_case_intro (fun h3 => ?_) (fun h3 => ?_)
    · have : fewRow s.rows[k] = false := by rw [ef]; simp; omega
      simp only [h3, go_sem]
      simp only [aresult, ares, go_sem]
      rw [eS, hall, ea, this]; simp
    simp only [h3, e, er, go_sem]
    refine t_loop_intro (fun j : Nat => j ≤ s.rows[k].vs.length ∧ (s.rows[k].vs.all fewVer = (s.rows[k].vs.drop j).all fewVer)) (fun j => s.rows[k].vs.length - j) 0 [4, 6, 37, 38, 39, 40, 41, 42, 43, 44, 45, 46, 47, 48, 49, 50, 51, 52, 53, 54, 55, 56, 57, 58, 59, 60] (fun j => [(6, .a (.int .i64 j))]) ⟨by omega, by simp⟩ (by simp) (fun j => by simp) rfl ?_
    intro j hk0j fr_ hfr
    have hkj : j ≤ s.rows[k].vs.length := hk0j.1
    have hallj := hk0j.2
    clear hk0j
    simp only [go_sem] at hfr
    subst hfr
    by_cases hltj : j < s.rows[k].vs.length
    · have h4 : (j : Int) < (s.rows[k].vs.length : Int) := by omega
      have e5 := getD_map Ver.row s.rows[k].vs j hltj
      have er5 : s.rows[k].vs[j].row = [.int .i64 s.rows[k].vs[j].at_, .int .i64 s.rows[k].vs[j].v.kind, .int .i64 s.rows[k].vs[j].v.n, .str s.rows[k].vs[j].v.s] := rfl
      have ew5 := wrap1 j s.rows[k].vs.length hltj (by omega)
      have ea5 := allD_step fewVer s.rows[k].vs j hltj
      simp only [h1, e, er, h4, e5, er5, go_sem]
      first | refine t_case_dec (fun h6 => ?_) (fun h6 => ?_) | refine t_case_ndec (fun h6 => ?_) (fun h6 => ?_) | refine t_case_eqI (fun h6 => ?_) (fun h6 => ?_) | refine t_case_neI (fun h6 => ?_) (fun h6 => ?_) | refine t_case_not (fun h6 => ?_) (fun h6 => ?_) | refine t_case_intro (fun h6 => ?_) (fun h6 => ?_)
      · have h7 : fewVer s.rows[k].vs[j] = false := by simp [fewVer]; omega
        have : fewRow s.rows[k] = false := by rw [ef, hallj, ea5, h7]; simp
        simp only [go_sem]
        simp only [aresult, ares, go_sem]
        rw [eS, hall, ea, this]; simp
      · have h7 : fewVer s.rows[k].vs[j] = true := by simp [fewVer]; omega
        simp only [ew5, go_sem]
        refine t_round (j + 1) ⟨by omega, (by rw [hallj, ea5, h7]; rfl)⟩ (by omega) (by simp) rfl rfl (by simp) rfl
    · have h4 : ¬ (j : Int) < (s.rows[k].vs.length : Int) := by omega
      have h7 : s.rows[k].vs.all fewVer = true := by rw [hallj, List.drop_eq_nil_of_le (by omega)]; rfl
      have : fewRow s.rows[k] = true := by rw [ef, h7]; simp; omega
      simp only [h1, e, er, h4, ew, go_sem]
      refine t_round (k + 1) ⟨by omega, (by rw [hall, ea, this]; rfl)⟩ (by omega) (by simp) rfl rfl (by simp) rfl
  · have h1 : ¬ (k : Int) < (s.rows.length : Int) := by omega
    simp only [h1, go_sem]
    simp only [aresult, ares, go_sem]
    rw [eS, hall, List.drop_eq_nil_of_le (by omega)]; rfl
end Go.Proofs.Ytlfebjehmabejaa
