/- Chapter 36: five laws. -/
import Derived.Test.YtemeiopghbpamaaBn
set_option linter.unusedSimpArgs false
set_option linter.unusedVariables false
namespace Go.Proofs.Ytemeiopghbpamaa
open Go Ab Go.RowKit
set_option maxRecDepth 100000
attribute [local irreducible] awp aops aop asoft aeff aloop acall acallI acallT
attribute [local go_sem] Vl.row sRow

/-! What is decoded -/
theorem decReq_fit (l : List UInt8) (a : Int) (hl : l.length ≤ 1073741824) : (decReq l a).1.fit := by
  have h0 : req0.fit := rc_fit 0
  unfold decReq
  split
  · exact h0
  · split
    · exact h0
    · split
      · exact h0
      · exact rqX_fit l a hl
theorem rsSt_fit (l : List UInt8) (a : Int) (hl : l.length ≤ 1073741824) : ∀ k, ∀ r ∈ (rsSt l a k).1, r.fit
  | 0, r, h => by cases h
  | k + 1, r, h => by
    by_cases he : (rsSt l a k).2.2 = 0
    · rw [rsSt_ok l a k he] at h
      rcases List.mem_append.1 h with h | h
      · exact rsSt_fit l a hl k r h
      · rw [List.mem_singleton.1 h]; exact decReq_fit l _ hl
    · have e := rsSt_err l a k he (k + 1) (by omega)
      rw [e] at h
      exact rsSt_fit l a hl k r h
theorem rsSt_len (l : List UInt8) (a : Int) : ∀ k, (rsSt l a k).1.length ≤ k
  | 0 => Nat.le_refl _
  | k + 1 => by
    have ih := rsSt_len l a k
    by_cases he : (rsSt l a k).2.2 = 0
    · rw [rsSt_ok l a k he]; simp; omega
    · rw [rsSt_err l a k he (k + 1) (by omega)]; omega
theorem decReqs_fit (l : List UInt8) (a : Int) (hl : l.length ≤ 1073741824) : ∀ r ∈ (decReqs l a).1, r.fit := by
  unfold decReqs
  split
  · intro r h; cases h
  · split
    · intro r h; cases h
    · exact rsSt_fit l _ hl _
theorem decReqs_len (l : List UInt8) (a : Int) : (decReqs l a).1.length ≤ 64 := by
  have h64 := rqC64_le l a
  have hk := rsSt_len l (Cw.takeC l a 64).2.1 (Cw.takeC l a 64).1
  have h64 : ((Cw.takeC l a 64).1 : Int) ≤ 64 := h64
  unfold decReqs
  split
  · exact Nat.zero_le _
  · split
    · exact Nat.zero_le _
    · omega
/-! Merging -/
theorem mrow_mem (ls : List (List Req)) (i k : Nat) (r : Req) (h : r ∈ mrow ls i k) : ∃ l ∈ ls, r ∈ l := by
  unfold mrow at h
  obtain ⟨l, hl, hr⟩ := List.mem_filterMap.1 h
  exact ⟨l, List.mem_of_mem_take hl, List.mem_of_getElem? hr⟩
theorem mcol_mem (ls : List (List Req)) (r : Req) : ∀ i, r ∈ mcol ls i → ∃ l ∈ ls, r ∈ l
  | 0, h => by cases h
  | i + 1, h => by
    rcases List.mem_append.1 h with h | h
    · exact mcol_mem ls r i h
    · exact mrow_mem ls i _ r h
theorem merge_mem (ls : List (List Req)) (r : Req) (h : r ∈ mergeR ls) : ∃ l ∈ ls, r ∈ l := mcol_mem ls r _ h
theorem short_of (ls : List (List Req)) (h : shortL ls = true) : ls.length ≤ 20 ∧ ∀ l ∈ ls, l.length ≤ 40 := by
  unfold shortL at h
  simp only [Bool.and_eq_true, decide_eq_true_eq, List.all_eq_true] at h
  exact ⟨h.1, fun l hl => of_decide_eq_true (h.2 l hl)⟩
theorem merge_len (ls : List (List Req)) (h1 : ls.length ≤ 20) (h2 : ∀ l ∈ ls, l.length ≤ 40) : (mergeR ls).length ≤ 800 := by
  have h3 := mcol_len ls (most ls ls.length)
  have h4 := most_le ls 40 h2 ls.length
  have h5 : most ls ls.length * ls.length ≤ 40 * 20 := Nat.mul_le_mul h4 h1
  unfold mergeR; omega
theorem mcol_one (l : List Req) : ∀ i, i ≤ l.length → mcol [l] i = l.take i
  | 0, _ => by simp [mcol]
  | i + 1, h => by
    have hi : i < l.length := by omega
    rw [mcol, mcol_one l i (by omega), List.take_succ_eq_append_getElem hi]
    simp [mrow, List.getElem?_eq_getElem hi]
theorem merge_one (l : List Req) : mergeR [l] = l := by
  have : most [l] [l].length = l.length := by simp [most]
  unfold mergeR
  rw [this, mcol_one l _ (Nat.le_refl _), List.take_length]
end Go.Proofs.Ytemeiopghbpamaa
