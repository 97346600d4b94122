/- Chapter 22: the reference's Truncate; the law MvstoreTruncates, walked. -/
import Derived.Test.YtlfebjehmabejaaMsn
import Derived.Test.YtlfebjehmabejaaRf
set_option linter.unusedSimpArgs false
set_option linter.unusedVariables false
namespace Go.Proofs.Ytlfebjehmabejaa
open Go Ab
set_option maxRecDepth 100000
attribute [local irreducible] awp aops aop asoft aeff aloop acall acallI acallT
attribute [local go_sem] Vl.row Ver.row Row.row Store.row Rg.row Pr.row

def rcut (r : Row) (floor : Int) (j : Nat) : List Ver := cutHead r floor ++ (r.vs.take j).filter fun x => decide (floor < x.at_)
def rcutA (r : Row) (floor : Int) (j : Nat) : List (List Atom) := (rcut r floor j).map Ver.row
theorem rcutA_zero (r : Row) (floor : Int) : rcutA r floor 0 = (cutHead r floor).map Ver.row := by simp [rcutA, rcut]
theorem rcutA_yes (r : Row) (floor : Int) (j : Nat) (h : j < r.vs.length) (h2 : floor < r.vs[j].at_) : rcutA r floor (j + 1) = rcutA r floor j ++ [[.int .i64 r.vs[j].at_, .int .i64 r.vs[j].v.kind, .int .i64 r.vs[j].v.n, .str r.vs[j].v.s]] := by
  unfold rcutA rcut
  rw [List.take_succ_eq_append_getElem h, List.filter_append, ← List.append_assoc, List.map_append]
  simp [h2, Ver.row]
theorem rcutA_no (r : Row) (floor : Int) (j : Nat) (h : j < r.vs.length) (h2 : ¬ floor < r.vs[j].at_) : rcutA r floor (j + 1) = rcutA r floor j := by
  unfold rcutA rcut
  rw [List.take_succ_eq_append_getElem h, List.filter_append]
  simp [h2]
theorem rcutA_len (r : Row) (floor : Int) (j : Nat) : (rcutA r floor j).length ≤ j + 1 := by
  have h1 := List.length_filter_le (fun x : Ver => decide (floor < x.at_)) (r.vs.take j)
  have h2 := List.length_take_le j r.vs
  have h3 : (cutHead r floor).length ≤ 1 := by unfold cutHead; split <;> simp
  simp only [rcutA, rcut, List.length_map, List.length_append]; omega
theorem filter_seen (floor : Int) : ∀ vs : List Ver, vs.Pairwise (fun a b => a.at_ < b.at_) → vs.filter (fun x => decide (floor < x.at_)) = vs.drop (seenGo floor vs)
  | [], _ => rfl
  | x :: xs, h => by
    by_cases hx : x.at_ ≤ floor
    · rw [List.filter_cons, if_neg (by simp; omega), filter_seen floor xs h.of_cons]
      simp only [seenGo, if_pos hx]; rfl
    · simp only [seenGo, if_neg hx]
      rw [List.filter_eq_self.2]
      · rfl
      · intro y hy
        rcases List.mem_cons.1 hy with rfl | hy
        · simp; omega
        · have := (List.pairwise_cons.1 h).1 y hy
          simp; omega
theorem rcutA_end (r : Row) (floor : Int) (h : r.vs.Pairwise (fun a b => a.at_ < b.at_)) : rcutA r floor r.vs.length = (cutV r floor).map Ver.row := by
  unfold rcutA rcut cutV
  rw [List.take_length, filter_seen floor r.vs h]

theorem cut_len (r : Row) (floor : Int) : (cutV r floor).length ≤ r.vs.length + 1 := by
  have h3 : (cutHead r floor).length ≤ 1 := by unfold cutHead; split <;> simp
  simp only [cutV, List.length_append, List.length_drop]; omega
def truncB (s : Store) (floor : Int) : Store :=
  if storeV s = true then (if s.la < floor then zeroS else if floor ≤ s.fl then s else cutS s floor) else zeroS
def truncE (s : Store) (floor : Int) : Int :=
  if storeV s = true then (if s.la < floor then 15 else 0) else 1
theorem truncA_eq (s : Store) (floor : Int) : truncA s floor = .tup [.agg (truncB s floor).row, .a (.int .i64 (truncE s floor))] := by
  unfold truncA truncB truncE
  by_cases h : storeV s = true
  · by_cases h2 : s.la < floor
    · simp [h, h2]
    · by_cases h3 : floor ≤ s.fl
      · simp [h, h2, h3]
      · simp [h, h2, h3]
  · simp [h]
theorem truncB_small (s : Store) (floor : Int) (hc : s.cutable) : (truncB s floor).rows.length * 40 ≤ 140737488351232 ∧ ∀ r ∈ (truncB s floor).rows, r.vs.length * 40 ≤ 140737488351232 := by
  have z : (zeroS.rows.length * 40 ≤ 140737488351232 ∧ ∀ r ∈ zeroS.rows, r.vs.length * 40 ≤ 140737488351232) := ⟨by simp [zeroS], fun r hr => by simp [zeroS] at hr⟩
  have h1 := hc.1
  unfold truncB
  split
  · split
    · exact z
    · split
      · exact ⟨h1, fun r hr => by have := hc.2 r hr; omega⟩
      · refine ⟨?_, fun r hr => ?_⟩
        · have := List.length_filter_le (fun r : Row => !r.vs.isEmpty) (s.rows.map (cutRow floor))
          rw [List.length_map] at this
          simp only [cutS, cutRows]; omega
        · simp only [cutS, cutRows, List.mem_filter, List.mem_map] at hr
          obtain ⟨⟨x, hx, rfl⟩, _⟩ := hr
          have := hc.2 x hx
          have := cut_len x floor
          simp only [cutRow]; omega
  · exact z
theorem cutable_few (s : Store) (h : fewS s 12 = true) : s.cutable := by
  simp only [fewS, Bool.and_eq_true, decide_eq_true_eq, List.all_eq_true] at h
  refine ⟨by omega, fun r hr => ?_⟩
  have := h.2 r hr
  simp only [fewRow, Bool.and_eq_true, decide_eq_true_eq] at this
  omega
end Go.Proofs.Ytlfebjehmabejaa
