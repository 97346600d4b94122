/- Chapter 37: what the parts of fresh requests are. -/
import Derived.Test.YtbiongfnbbnndaaQh
set_option linter.unusedSimpArgs false
set_option linter.unusedVariables false
namespace Go.Proofs.Ytbiongfnbbnndaa
open Go Ab Go.RowKit
theorem filtN_sum (l : List Ses) (pend fresh : List Req) : ∀ k, k ≤ fresh.length → (filtN l pend fresh k).a.length + (filtN l pend fresh k).b.length + (filtN l pend fresh k).g.length ≤ k
  | 0, _ => by rw [filtN_zero]; exact Nat.le_refl _
  | k + 1, h => by
    have ih := filtN_sum l pend fresh k (by omega)
    rw [filtN_step l pend fresh k (by omega)]
    unfold fstep
    split
    · simp only [List.length_append, List.length_cons, List.length_nil]; omega
    · split
      · split
        · simp only [List.length_append, List.length_cons, List.length_nil]; omega
        · omega
      · split
        · simp only [List.length_append, List.length_cons, List.length_nil]; omega
        · omega
theorem cntR_app (a b : List Req) (c : Int) : cntR (a ++ b) c = cntR a c + cntR b c := by
  unfold cntR
  rw [List.filter_append, List.length_append]
theorem want_exp {l : List Ses} (h : sessV l = true) (p acc : List Req) (c : Int) : wantI l p acc c = expI l (p ++ acc) c := by
  unfold wantI expI
  rw [if_pos h, cntR_app, IntKind.wrap_i64, IntKind.wrap_i64, IntKind.wrap_i64]
  omega
theorem next_range {l : List Ses} (h : sessV l = true) (c : Int) : 1 ≤ nextI l c ∧ nextI l c ≤ 1099511627776 := by
  unfold nextI
  cases hs : sOf l c with
  | none => exact ⟨by decide, by decide⟩
  | some s =>
    have hv := (sessV_asc h).2 s (sOf_mem hs).1
    unfold sesV at hv
    rw [Bool.and_eq_true] at hv
    have hh := sHead_of hv.1
    have h1 := hh.n1
    have h2 := hh.n2
    exact ⟨by simp only; omega, by simp only; omega⟩
theorem exp_range {l : List Ses} (h : sessV l = true) (p : List Req) (hp : p.length ≤ 4194304) (c : Int) : expI l p c = nextI l c + (cntR p c : Nat) := by
  have h1 := next_range h c
  have h2 := cntR_le p c
  unfold expI
  rw [if_pos h, IntKind.wrap_i64]
  omega
theorem look_self {l : List Ses} (h : sessV l = true) {c q : Int} (h0 : (lookP l c q).2 = 0) : (lookP l c q).1.cl = c ∧ (lookP l c q).1.sq = q := by
  unfold lookP at h0 ⊢
  split at h0
  · simp at h0
  · rename_i h1
    rw [if_neg h1]
    split at h0
    · simp at h0
    · rename_i h2
      rw [if_neg h2]
      split at h0
      · simp at h0
      · rename_i r hr
        have hm := rpOf_mem hr
        refine ⟨?_, hm.2⟩
        have hm1 := hm.1
        unfold fndC at hm1
        split at hm1
        · simp at hm1
        · rename_i s hs
          have hms := sOf_mem hs
          rw [(ses_cl ((sessV_asc h).2 s hms.1) r hm1).1]
          exact hms.2
structure Parts (l : List Ses) (p : List Req) (x : Flt) : Prop where
  a : ∀ (i : Nat) (h : i < x.a.length), x.a[i].sq = expI l (p ++ x.a.take i) x.a[i].cl
  b : ∀ r ∈ x.b, lookP l r.cl r.sq = (r, 0)
  g : ∀ r ∈ x.g, expI l p r.cl < r.sq
theorem fstep_parts {l : List Ses} (h : sessV l = true) {p : List Req} (hp : p.length ≤ 1048576) {x : Flt} (hx : x.a.length ≤ 1048576) (r : Req) (hP : Parts l p x) : Parts l p (fstep l p x r) := by
  unfold fstep
  split
  · rename_i hw
    refine ⟨fun i hi => ?_, hP.b, hP.g⟩
    have hi2 : i < (x.a ++ [r]).length := hi
    show (x.a ++ [r])[i].sq = expI l (p ++ (x.a ++ [r]).take i) (x.a ++ [r])[i].cl
    by_cases c : i < x.a.length
    · rw [List.getElem_append_left c, List.take_append_of_le_length (by omega)]
      exact hP.a i c
    · have e : i = x.a.length := by simp only [List.length_append, List.length_cons, List.length_nil] at hi2; omega
      subst e
      rw [List.getElem_append_right (Nat.le_refl _), List.take_left']
      · simp only [Nat.sub_self, List.getElem_cons_zero]
        rw [hw, want_exp h]
      · rfl
  · rename_i hw
    split
    · split
      · rename_i he
        refine ⟨hP.a, fun y hy => ?_, hP.g⟩
        rcases List.mem_append.1 hy with hy | hy
        · exact hP.b y hy
        · rw [List.mem_singleton.1 hy]
          have hs := look_self h he
          rw [hs.1, hs.2]
          exact Prod.ext rfl he
      · exact hP
    · split
      · rename_i hg
        refine ⟨hP.a, hP.b, fun y hy => ?_⟩
        rcases List.mem_append.1 hy with hy | hy
        · exact hP.g y hy
        · rw [List.mem_singleton.1 hy]
          rw [want_exp h, exp_range h _ (by rw [List.length_append]; omega), cntR_app] at hg
          rw [exp_range h _ (by omega)]
          omega
      · exact hP
theorem filtN_parts {l : List Ses} (h : sessV l = true) {p fresh : List Req} (hp : p.length ≤ 1048576) (hf : fresh.length ≤ 1048576) : ∀ k, k ≤ fresh.length → Parts l p (filtN l p fresh k)
  | 0, _ => by rw [filtN_zero]; exact ⟨fun i hi => by simp at hi, fun r hr => by simp at hr, fun r hr => by simp at hr⟩
  | k + 1, hk => by
    have hn := filtN_len l p fresh k (by omega)
    rw [filtN_step l p fresh k (by omega)]
    exact fstep_parts h hp (by omega) _ (filtN_parts h hp hf k (by omega))
end Go.Proofs.Ytbiongfnbbnndaa
