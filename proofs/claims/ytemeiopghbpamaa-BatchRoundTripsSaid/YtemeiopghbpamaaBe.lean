/- Requests: what is read out of bytes; no program. -/
import Derived.Test.YtemeiopghbpamaaBd
set_option linter.unusedSimpArgs false
set_option linter.unusedVariables false
namespace Go.Proofs.Ytemeiopghbpamaa
open Go Ab Go.RowKit

/-! A reader: where it stands, and the first error -/
def rdU (l : List UInt8) (a e : Int) : Nat × Int × Int := if e = 0 then Cw.takeU l a else (0, a, e)
def rdC (l : List UInt8) (m a e : Int) : Nat × Int × Int := if e = 0 then Cw.takeC l a m else (0, a, e)
def rdT (l : List UInt8) (m a e : Int) : List UInt8 × Int × Int := if e = 0 then Cw.takeT l a m else ([], a, e)
def rdF (l : List UInt8) (a e : Int) : Bool × Int × Int := if e = 0 then takeB l a else (false, a, e)
def rdV (l : List UInt8) (a e : Int) : Vl × Int × Int := if e = 0 then decV l a else (vl0, a, e)
def vsSt (l : List UInt8) (a e : Int) : Nat → List Vl × Int × Int
  | 0 => ([], a, e)
  | k + 1 => ((vsSt l a e k).1 ++ [(rdV l (vsSt l a e k).2.1 (vsSt l a e k).2.2).1], (rdV l (vsSt l a e k).2.1 (vsSt l a e k).2.2).2.1, (rdV l (vsSt l a e k).2.1 (vsSt l a e k).2.2).2.2)
def ksSt (l : List UInt8) (a e : Int) : Nat → List ByteArray × Int × Int
  | 0 => ([], a, e)
  | k + 1 => ((ksSt l a e k).1 ++ [⟨(rdT l 24 (ksSt l a e k).2.1 (ksSt l a e k).2.2).1.toArray⟩], (rdT l 24 (ksSt l a e k).2.1 (ksSt l a e k).2.2).2.1, (rdT l 24 (ksSt l a e k).2.1 (ksSt l a e k).2.2).2.2)
def rdVs (l : List UInt8) (a e : Int) : List Vl × Int × Int := vsSt l (rdC l 6 a e).2.1 (rdC l 6 a e).2.2 (rdC l 6 a e).1
def rdKs (l : List UInt8) (a e : Int) : List ByteArray × Int × Int := ksSt l (rdC l 64 a e).2.1 (rdC l 64 a e).2.2 (rdC l 64 a e).1
def rdFt (l : List UInt8) (d : Bool) (a e : Int) : List ByteArray × Int × Int := if d = true then rdKs l a e else ([], a, e)
theorem rdU_err (l : List UInt8) (a e : Int) (h : e ≠ 0) : rdU l a e = (0, a, e) := if_neg h
theorem rdC_err (l : List UInt8) (m a e : Int) (h : e ≠ 0) : rdC l m a e = (0, a, e) := if_neg h
theorem rdT_err (l : List UInt8) (m a e : Int) (h : e ≠ 0) : rdT l m a e = ([], a, e) := if_neg h
theorem rdF_err (l : List UInt8) (a e : Int) (h : e ≠ 0) : rdF l a e = (false, a, e) := if_neg h
theorem rdV_err (l : List UInt8) (a e : Int) (h : e ≠ 0) : rdV l a e = (vl0, a, e) := if_neg h
theorem rdU_ok (l : List UInt8) (a : Int) : rdU l a 0 = Cw.takeU l a := if_pos rfl
theorem rdC_ok (l : List UInt8) (m a : Int) : rdC l m a 0 = Cw.takeC l a m := if_pos rfl
theorem rdT_ok (l : List UInt8) (m a : Int) : rdT l m a 0 = Cw.takeT l a m := if_pos rfl
theorem rdF_ok (l : List UInt8) (a : Int) : rdF l a 0 = takeB l a := if_pos rfl
theorem rdV_ok (l : List UInt8) (a : Int) : rdV l a 0 = decV l a := if_pos rfl
theorem vsSt_err (l : List UInt8) (a e : Int) (k : Nat) (h : (vsSt l a e k).2.2 ≠ 0) : ∀ n, k ≤ n → (vsSt l a e n).2 = (vsSt l a e k).2
  | n, hn => by
    induction n with
    | zero => rw [show k = 0 by omega]
    | succ n ih =>
      by_cases hk : k = n + 1
      · rw [hk]
      · have ih := ih (by omega)
        have e2 : (vsSt l a e n).2.2 ≠ 0 := by rw [ih]; exact h
        show ((rdV l _ _).2.1, (rdV l _ _).2.2) = _
        rw [rdV_err _ _ _ e2, ← ih]
theorem ksSt_err (l : List UInt8) (a e : Int) (k : Nat) (h : (ksSt l a e k).2.2 ≠ 0) : ∀ n, k ≤ n → (ksSt l a e n).2 = (ksSt l a e k).2
  | n, hn => by
    induction n with
    | zero => rw [show k = 0 by omega]
    | succ n ih =>
      by_cases hk : k = n + 1
      · rw [hk]
      · have ih := ih (by omega)
        have e2 : (ksSt l a e n).2.2 ≠ 0 := by rw [ih]; exact h
        show ((rdT l 24 _ _).2.1, (rdT l 24 _ _).2.2) = _
        rw [rdT_err _ _ _ _ e2, ← ih]
theorem vsSt_len (l : List UInt8) (a e : Int) : ∀ n, (vsSt l a e n).1.length = n
  | 0 => rfl
  | n + 1 => by simp [vsSt, vsSt_len l a e n]
theorem ksSt_len (l : List UInt8) (a e : Int) : ∀ n, (ksSt l a e n).1.length = n
  | 0 => rfl
  | n + 1 => by simp [ksSt, ksSt_len l a e n]
theorem rdVs_err (l : List UInt8) (a e : Int) (h : e ≠ 0) : rdVs l a e = ([], a, e) := by unfold rdVs; rw [rdC_err _ _ _ _ h]; rfl
theorem rdKs_err (l : List UInt8) (a e : Int) (h : e ≠ 0) : rdKs l a e = ([], a, e) := by unfold rdKs; rw [rdC_err _ _ _ _ h]; rfl
theorem rdFt_err (l : List UInt8) (d : Bool) (a e : Int) (h : e ≠ 0) : rdFt l d a e = ([], a, e) := by unfold rdFt; split; exact rdKs_err l a e h; rfl
/-! Sizes -/
theorem takeC_le (l : List UInt8) (a m : Int) (hm : 0 ≤ m) : ((Cw.takeC l a m).1 : Int) ≤ m := by
  rcases takeC_cases l a m with ⟨u, n, h, h1, _⟩ | h
  · rw [h]; exact h1
  · obtain ⟨e, h, _⟩ := h
    rw [h]; exact hm
theorem rdC_le (l : List UInt8) (m a e : Int) (hm : 0 ≤ m) : ((rdC l m a e).1 : Int) ≤ m := by
  unfold rdC; split
  · exact takeC_le l a m hm
  · exact hm
theorem rdT_len (l : List UInt8) (m a e : Int) : (rdT l m a e).1.length ≤ l.length := by
  unfold rdT; split
  · exact takeT_sz l a m
  · simp
theorem bsize (l : List UInt8) : (⟨l.toArray⟩ : ByteArray).size = l.length := by simp [ByteArray.size]
theorem ksSt_size (l : List UInt8) (a e : Int) : ∀ n, ∀ s ∈ (ksSt l a e n).1, s.size ≤ l.length
  | 0, s, h => by cases h
  | n + 1, s, h => by
    rcases List.mem_append.1 h with h | h
    · exact ksSt_size l a e n s h
    · rw [List.mem_singleton.1 h, bsize]; exact rdT_len l 24 _ _
theorem rdVs_len (l : List UInt8) (a e : Int) : (rdVs l a e).1.length ≤ 6 := by
  unfold rdVs; rw [vsSt_len]; have := rdC_le l 6 a e (by omega); omega
theorem rdKs_len (l : List UInt8) (a e : Int) : (rdKs l a e).1.length ≤ 64 := by
  unfold rdKs; rw [ksSt_len]; have := rdC_le l 64 a e (by omega); omega
theorem rdFt_len (l : List UInt8) (d : Bool) (a e : Int) : (rdFt l d a e).1.length ≤ 64 := by
  unfold rdFt; split
  · exact rdKs_len l a e
  · simp
theorem rdFt_size (l : List UInt8) (d : Bool) (a e : Int) : ∀ s ∈ (rdFt l d a e).1, s.size ≤ l.length := by
  unfold rdFt; split
  · exact ksSt_size l _ _ _
  · intro s h; cases h
theorem m63_0 : -Cw.M63 ≤ (0 : Int) ∧ (0 : Int) < Cw.M63 := by rw [Cw.m63]; decide
theorem takeU_lt' (l : List UInt8) (a : Int) : ((Cw.takeU l a).1 : Int) < Cw.M64 := by
  rcases Cw.takeU_cases l a with ⟨u, n, h, h1, _⟩ | ⟨e, h, _⟩
  · rw [h]; exact h1
  · rw [h]; exact m64_0
theorem decV_in (l : List UInt8) (a : Int) : (decV l a).1.s.size ≤ l.length ∧ -Cw.M63 ≤ (decV l a).1.n ∧ (decV l a).1.n < Cw.M63 := by
  have z : (0 : Nat) ≤ l.length := Nat.zero_le _
  have base : vl0.s.size ≤ l.length ∧ -Cw.M63 ≤ vl0.n ∧ vl0.n < Cw.M63 := ⟨z, m63_0.1, m63_0.2⟩
  unfold decV
  split
  rename_i kd n e hU
  split
  · exact base
  · split
    · exact base
    · split
      · split
        rename_i m en e2 hI
        split
        · exact base
        · refine ⟨z, ?_⟩
          simp only
          unfold takeIv at hI
          split at hI
          rename_i u n' e' hu
          have hlt := takeU_lt' l n
          rw [hu] at hlt
          split at hI
          · have h := congrArg Prod.fst hI; simp only at h; rw [← h]; exact m63_0
          · have h := congrArg Prod.fst hI; simp only at h; rw [← h]; exact Cw.unfold_in u hlt
      · split
        · split
          rename_i t en e2 hT
          split
          · exact base
          · split
            · refine ⟨?_, m63_0.1, m63_0.2⟩
              have := takeT_sz l n 64
              rw [hT] at this
              simp only [bsize]
              exact this
            · exact base
        · exact base
theorem vsSt_in (l : List UInt8) (a e : Int) : ∀ n, ∀ v ∈ (vsSt l a e n).1, v.s.size ≤ l.length ∧ -Cw.M63 ≤ v.n ∧ v.n < Cw.M63
  | 0, s, h => by cases h
  | n + 1, s, h => by
    rcases List.mem_append.1 h with h | h
    · exact vsSt_in l a e n s h
    · rw [List.mem_singleton.1 h]
      unfold rdV; split
      · exact decV_in l _
      · exact ⟨Nat.zero_le _, m63_0.1, m63_0.2⟩
/-! A request -/
def req0 : Req := ⟨0, 0, ⟨#[]⟩, [], false, false, [], []⟩
def rqU1 (l : List UInt8) (a : Int) := rdU l a 0
def rqU2 (l : List UInt8) (a : Int) := rdU l (rqU1 l a).2.1 (rqU1 l a).2.2
def rqP (l : List UInt8) (a : Int) := rdT l 16 (rqU2 l a).2.1 (rqU2 l a).2.2
def rqV (l : List UInt8) (a : Int) := rdVs l (rqP l a).2.1 (rqP l a).2.2
def rqD (l : List UInt8) (a : Int) := rdF l (rqV l a).2.1 (rqV l a).2.2
def rqR (l : List UInt8) (a : Int) := rdFt l (rqD l a).1 (rqD l a).2.1 (rqD l a).2.2
def rqW (l : List UInt8) (a : Int) := rdFt l (rqD l a).1 (rqR l a).2.1 (rqR l a).2.2
def rqX (l : List UInt8) (a : Int) : Req := ⟨(rqU1 l a).1, (rqU2 l a).1, ⟨(rqP l a).1.toArray⟩, (rqV l a).1, (rqD l a).1, false, (rqR l a).1, (rqW l a).1⟩
def decReq (l : List UInt8) (a : Int) : Req × Int × Int :=
  if (rqW l a).2.2 ≠ 0 then (req0, 0, (rqW l a).2.2)
  else if 32 < (rqU1 l a).1 ∨ 1099511627776 < (rqU2 l a).1 then (req0, 0, 5)
  else if reqE (rqX l a) ≠ 0 then (req0, 0, 5) else (rqX l a, (rqW l a).2.1, 0)
theorem rqX_fit (l : List UInt8) (a : Int) (hl : l.length ≤ 1073741824) : (rqX l a).fit := by
  have h1 := rdT_len l 16 (rqU2 l a).2.1 (rqU2 l a).2.2
  have h2 : (rqV l a).1.length ≤ 6 := rdVs_len l _ _
  have h3 : (rqR l a).1.length ≤ 64 := rdFt_len l _ _ _
  have h4 : (rqW l a).1.length ≤ 64 := rdFt_len l _ _ _
  refine ⟨?_, ?_, fun v hv => ?_, ⟨?_, fun s hs => ?_⟩, ⟨?_, fun s hs => ?_⟩, fun v hv => ?_⟩
  · show (⟨(rqP l a).1.toArray⟩ : ByteArray).size ≤ _
    rw [bsize]; unfold rqP; omega
  · show (rqV l a).1.length * 8 ≤ _
    omega
  · have := (vsSt_in l _ _ _ v hv).1; omega
  · show (rqR l a).1.length * 8 ≤ _
    omega
  · have := rdFt_size l _ _ _ s hs; omega
  · show (rqW l a).1.length * 8 ≤ _
    omega
  · have := rdFt_size l _ _ _ s hs; omega
  · exact (vsSt_in l _ _ _ v hv).2
def decReqV (x : Req × Int × Int) : AV := .tup [.agg x.1.row, .a (.int .i64 x.2.1), .a (.int .i64 x.2.2)]
/-! Lists of requests -/
def rsSt (l : List UInt8) (a : Int) : Nat → List Req × Int × Int
  | 0 => ([], a, 0)
  | k + 1 => if (rsSt l a k).2.2 ≠ 0 then rsSt l a k else ((rsSt l a k).1 ++ [(decReq l (rsSt l a k).2.1).1], (decReq l (rsSt l a k).2.1).2.1, (decReq l (rsSt l a k).2.1).2.2)
def decReqs (l : List UInt8) (a : Int) : List Req × Int × Int :=
  if (Cw.takeC l a 64).2.2 ≠ 0 then ([], 0, (Cw.takeC l a 64).2.2)
  else if (rsSt l (Cw.takeC l a 64).2.1 (Cw.takeC l a 64).1).2.2 ≠ 0 then ([], 0, (rsSt l (Cw.takeC l a 64).2.1 (Cw.takeC l a 64).1).2.2)
  else rsSt l (Cw.takeC l a 64).2.1 (Cw.takeC l a 64).1
end Go.Proofs.Ytemeiopghbpamaa
