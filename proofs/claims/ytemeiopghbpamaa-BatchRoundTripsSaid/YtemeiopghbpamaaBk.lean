/- The reference's DecodeRequest. -/
import Derived.Test.YtemeiopghbpamaaBj
set_option linter.unusedSimpArgs false
set_option linter.unusedVariables false
namespace Go.Proofs.Ytemeiopghbpamaa
open Go Ab Go.RowKit
attribute [local irreducible] awp aops aop asoft aeff aloop acall acallI acallT
attribute [local go_sem] Vl.row sRow

def ksG (l : List UInt8) (a e : Int) : Nat → List ByteArray × Int × Int
  | 0 => ([], a, e)
  | k + 1 => if (ksG l a e k).2.2 ≠ 0 then ksG l a e k else ((ksG l a e k).1 ++ [⟨((rdT l 24 (ksG l a e k).2.1 (ksG l a e k).2.2)).1.toArray⟩], (rdT l 24 (ksG l a e k).2.1 (ksG l a e k).2.2).2.1, (rdT l 24 (ksG l a e k).2.1 (ksG l a e k).2.2).2.2)
theorem ksG_err (l : List UInt8) (a e : Int) (k : Nat) (h : (ksG l a e k).2.2 ≠ 0) : ∀ n, k ≤ n → ksG l a e n = ksG l a e k
  | n, hn => by
    induction n with
    | zero => rw [show k = 0 by omega]
    | succ n ih =>
      by_cases hk : k = n + 1
      · rw [hk]
      · have ih := ih (by omega)
        show (if (ksG l a e n).2.2 ≠ 0 then ksG l a e n else _) = _
        rw [if_pos (by rw [ih]; exact h), ih]
theorem ksG_ok (l : List UInt8) (a e : Int) (k : Nat) (h : (ksG l a e k).2.2 = 0) : ksG l a e (k + 1) = ((ksG l a e k).1 ++ [⟨((rdT l 24 (ksG l a e k).2.1 (ksG l a e k).2.2)).1.toArray⟩], (rdT l 24 (ksG l a e k).2.1 (ksG l a e k).2.2).2.1, (rdT l 24 (ksG l a e k).2.1 (ksG l a e k).2.2).2.2) := if_neg (by simp [h])
theorem ksG_st (l : List UInt8) (a e : Int) : ∀ n, (ksG l a e n).2 = (ksSt l a e n).2 ∧ ((ksSt l a e n).2.2 = 0 → ksG l a e n = ksSt l a e n)
  | 0 => ⟨rfl, fun _ => rfl⟩
  | n + 1 => by
    obtain ⟨h1, h2⟩ := ksG_st l a e n
    by_cases he : (ksG l a e n).2.2 = 0
    · have he2 : (ksSt l a e n).2.2 = 0 := by rw [← h1]; exact he
      have h3 := h2 he2
      have h4 : ksG l a e (n + 1) = ksSt l a e (n + 1) := by rw [ksG_ok l a e n he, h3]; rfl
      exact ⟨by rw [h4], fun _ => h4⟩
    · have he2 : (ksSt l a e n).2.2 ≠ 0 := by rw [← h1]; exact he
      have h3 := ksSt_err l a e n he2 (n + 1) (by omega)
      have h4 := ksG_err l a e n he (n + 1) (by omega)
      exact ⟨by rw [h4, h3, h1], fun h => absurd h (by rw [h3]; exact he2)⟩
def rkKs (l : List UInt8) (a : Int) : List ByteArray × Int × Int := ksG l (Cw.takeC l a 64).2.1 (Cw.takeC l a 64).2.2 (Cw.takeC l a 64).1
theorem rkKs_st (l : List UInt8) (a : Int) : (rkKs l a).2 = (rdKs l a 0).2 ∧ ((rdKs l a 0).2.2 = 0 → rkKs l a = rdKs l a 0) := by
  unfold rkKs rdKs
  rw [rdC_ok]
  exact ksG_st l _ _ _

def vsG (l : List UInt8) (a e : Int) : Nat → List Vl × Int × Int
  | 0 => ([], a, e)
  | k + 1 => if (vsG l a e k).2.2 ≠ 0 then vsG l a e k else ((vsG l a e k).1 ++ [((rdV l (vsG l a e k).2.1 (vsG l a e k).2.2)).1], (rdV l (vsG l a e k).2.1 (vsG l a e k).2.2).2.1, (rdV l (vsG l a e k).2.1 (vsG l a e k).2.2).2.2)
theorem vsG_err (l : List UInt8) (a e : Int) (k : Nat) (h : (vsG l a e k).2.2 ≠ 0) : ∀ n, k ≤ n → vsG l a e n = vsG l a e k
  | n, hn => by
    induction n with
    | zero => rw [show k = 0 by omega]
    | succ n ih =>
      by_cases hk : k = n + 1
      · rw [hk]
      · have ih := ih (by omega)
        show (if (vsG l a e n).2.2 ≠ 0 then vsG l a e n else _) = _
        rw [if_pos (by rw [ih]; exact h), ih]
theorem vsG_ok (l : List UInt8) (a e : Int) (k : Nat) (h : (vsG l a e k).2.2 = 0) : vsG l a e (k + 1) = ((vsG l a e k).1 ++ [((rdV l (vsG l a e k).2.1 (vsG l a e k).2.2)).1], (rdV l (vsG l a e k).2.1 (vsG l a e k).2.2).2.1, (rdV l (vsG l a e k).2.1 (vsG l a e k).2.2).2.2) := if_neg (by simp [h])
theorem vsG_st (l : List UInt8) (a e : Int) : ∀ n, (vsG l a e n).2 = (vsSt l a e n).2 ∧ ((vsSt l a e n).2.2 = 0 → vsG l a e n = vsSt l a e n)
  | 0 => ⟨rfl, fun _ => rfl⟩
  | n + 1 => by
    obtain ⟨h1, h2⟩ := vsG_st l a e n
    by_cases he : (vsG l a e n).2.2 = 0
    · have he2 : (vsSt l a e n).2.2 = 0 := by rw [← h1]; exact he
      have h3 := h2 he2
      have h4 : vsG l a e (n + 1) = vsSt l a e (n + 1) := by rw [vsG_ok l a e n he, h3]; rfl
      exact ⟨by rw [h4], fun _ => h4⟩
    · have he2 : (vsSt l a e n).2.2 ≠ 0 := by rw [← h1]; exact he
      have h3 := vsSt_err l a e n he2 (n + 1) (by omega)
      have h4 := vsG_err l a e n he (n + 1) (by omega)
      exact ⟨by rw [h4, h3, h1], fun h => absurd h (by rw [h3]; exact he2)⟩
def rkVs (l : List UInt8) (a : Int) : List Vl × Int × Int := vsG l (Cw.takeC l a 6).2.1 (Cw.takeC l a 6).2.2 (Cw.takeC l a 6).1
theorem rkVs_st (l : List UInt8) (a : Int) : (rkVs l a).2 = (rdVs l a 0).2 ∧ ((rdVs l a 0).2.2 = 0 → rkVs l a = rdVs l a 0) := by
  unfold rkVs rdVs
  rw [rdC_ok]
  exact vsG_st l _ _ _

/-! The head -/
def smallR (l : List UInt8) (a : Int) : Bool := decide ((rqU1 l a).1 ≤ 32) && decide ((rqU2 l a).1 ≤ 1099511627776)
def headV (l : List UInt8) (a : Int) : AV :=
  if (rqP l a).2.2 ≠ 0 then .tup [.agg reqZ, .a (.bool false), .a (.int .i64 0), .a (.int .i64 (rqP l a).2.2)]
  else if smallR l a = true then .tup [.agg [.int .i64 (rqU1 l a).1, .int .i64 (rqU2 l a).1, .str ⟨(rqP l a).1.toArray⟩, .nils, .bool false, .bool false, .nils, .nils], .a (.bool true), .a (.int .i64 (rqP l a).2.1), .a (.int .i64 0)]
  else .tup [.agg [.int .i64 0, .int .i64 0, .str ⟨(rqP l a).1.toArray⟩, .nils, .bool false, .bool false, .nils, .nils], .a (.bool false), .a (.int .i64 (rqP l a).2.1), .a (.int .i64 0)]
theorem rqU2_of (l : List UInt8) (a : Int) (h : (rqU1 l a).2.2 ≠ 0) : (rqU2 l a).2.2 = (rqU1 l a).2.2 := by unfold rqU2; rw [rdU_err _ _ _ h]
theorem rqP_of (l : List UInt8) (a : Int) (h : (rqU2 l a).2.2 ≠ 0) : (rqP l a).2.2 = (rqU2 l a).2.2 := by unfold rqP; rw [rdT_err _ _ _ _ h]
theorem rqV_of (l : List UInt8) (a : Int) (h : (rqP l a).2.2 ≠ 0) : (rqV l a).2.2 = (rqP l a).2.2 := by unfold rqV; rw [rdVs_err _ _ _ h]
theorem rqD_of (l : List UInt8) (a : Int) (h : (rqV l a).2.2 ≠ 0) : (rqD l a).2.2 = (rqV l a).2.2 := by unfold rqD; rw [rdF_err _ _ _ h]
theorem rqR_of (l : List UInt8) (a : Int) (h : (rqD l a).2.2 ≠ 0) : (rqR l a).2.2 = (rqD l a).2.2 := by unfold rqR; rw [rdFt_err _ _ _ _ h]
theorem rqW_of (l : List UInt8) (a : Int) (h : (rqR l a).2.2 ≠ 0) : (rqW l a).2.2 = (rqR l a).2.2 := by unfold rqW; rw [rdFt_err _ _ _ _ h]
theorem W_of_R (l : List UInt8) (a : Int) (h : (rqR l a).2.2 ≠ 0) : (rqW l a).2.2 = (rqR l a).2.2 := rqW_of l a h
theorem W_of_D (l : List UInt8) (a : Int) (h : (rqD l a).2.2 ≠ 0) : (rqW l a).2.2 = (rqD l a).2.2 := by have e := rqR_of l a h; rw [W_of_R l a (by rw [e]; exact h), e]
theorem W_of_V (l : List UInt8) (a : Int) (h : (rqV l a).2.2 ≠ 0) : (rqW l a).2.2 = (rqV l a).2.2 := by have e := rqD_of l a h; rw [W_of_D l a (by rw [e]; exact h), e]
theorem W_of_P (l : List UInt8) (a : Int) (h : (rqP l a).2.2 ≠ 0) : (rqW l a).2.2 = (rqP l a).2.2 := by have e := rqV_of l a h; rw [W_of_V l a (by rw [e]; exact h), e]
end Go.Proofs.Ytemeiopghbpamaa
