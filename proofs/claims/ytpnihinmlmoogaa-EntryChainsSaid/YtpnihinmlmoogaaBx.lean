/- Requests: what is read out of bytes; no program. -/
import Derived.Test.YtpnihinmlmoogaaBd
import Derived.Test.YtpnihinmlmoogaaAbO
set_option linter.unusedSimpArgs false
set_option linter.unusedVariables false

namespace Go.Proofs.Ytpnihinmlmoogaa
open Go Ab Go.RowKit

/-! A reader: where it stands, and the first error -/
def rdU (l : List UInt8) (a e : Int) : Nat × Int × Int := if e = 0 then Cw.takeU l a else (0, a, e)
def rdC (l : List UInt8) (m a e : Int) : Nat × Int × Int := if e = 0 then Cw.takeC l a m else (0, a, e)
def rdT (l : List UInt8) (m a e : Int) : List UInt8 × Int × Int := if e = 0 then Cw.takeT l a m else ([], a, e)
def rdF (l : List UInt8) (a e : Int) : Bool × Int × Int := if e = 0 then takeB l a else (false, a, e)
def rdV (l : List UInt8) (a e : Int) : Vl × Int × Int := if e = 0 then decV l a else (vl0, a, e)
def vsSt (l : List UInt8) (a e : Int) : Nat → List Vl × Int × Int
  | 0 => ([], a, e)
  | k + 1 => ((vsSt l a e k).1 ++ [(rdV l (vsSt l a e k).2.1 (vsSt l a e k).2.2).1], (rdV l (vsSt l a e k).2.1 (vsSt l a e k).2.2).2.1, (rdV l (vsSt l a e k).2.1 (vsSt l a e k).2.2).2.2)
def ksSt (l : List UInt8) (a e : Int) : Nat → List ByteArray × Int × Int
  | 0 => ([], a, e)
  | k + 1 => ((ksSt l a e k).1 ++ [⟨(rdT l 24 (ksSt l a e k).2.1 (ksSt l a e k).2.2).1.toArray⟩], (rdT l 24 (ksSt l a e k).2.1 (ksSt l a e k).2.2).2.1, (rdT l 24 (ksSt l a e k).2.1 (ksSt l a e k).2.2).2.2)
def rdVs (l : List UInt8) (a e : Int) : List Vl × Int × Int := vsSt l (rdC l 6 a e).2.1 (rdC l 6 a e).2.2 (rdC l 6 a e).1
def rdKs (l : List UInt8) (a e : Int) : List ByteArray × Int × Int := ksSt l (rdC l 64 a e).2.1 (rdC l 64 a e).2.2 (rdC l 64 a e).1
def rdFt (l : List UInt8) (d : Bool) (a e : Int) : List ByteArray × Int × Int := if d = true then rdKs l a e else ([], a, e)
theorem rdU_err (l : List UInt8) (a e : Int) (h : e ≠ 0) : rdU l a e = (0, a, e) := if_neg h
theorem rdC_err (l : List UInt8) (m a e : Int) (h : e ≠ 0) : rdC l m a e = (0, a, e) := if_neg h
theorem rdT_err (l : List UInt8) (m a e : Int) (h : e ≠ 0) : rdT l m a e = ([], a, e) := if_neg h
theorem rdF_err (l : List UInt8) (a e : Int) (h : e ≠ 0) : rdF l a e = (false, a, e) := if_neg h
theorem rdV_err (l : List UInt8) (a e : Int) (h : e ≠ 0) : rdV l a e = (vl0, a, e) := if_neg h
theorem rdU_ok (l : List UInt8) (a : Int) : rdU l a 0 = Cw.takeU l a := if_pos rfl
theorem rdC_ok (l : List UInt8) (m a : Int) : rdC l m a 0 = Cw.takeC l a m := if_pos rfl
theorem rdT_ok (l : List UInt8) (m a : Int) : rdT l m a 0 = Cw.takeT l a m := if_pos rfl
theorem rdF_ok (l : List UInt8) (a : Int) : rdF l a 0 = takeB l a := if_pos rfl
theorem rdV_ok (l : List UInt8) (a : Int) : rdV l a 0 = decV l a := if_pos rfl
theorem vsSt_err (l : List UInt8) (a e : Int) (k : Nat) (h : (vsSt l a e k).2.2 ≠ 0) : ∀ n, k ≤ n → (vsSt l a e n).2 = (vsSt l a e k).2
  | n, hn => by
    induction n with
    | zero => rw [show k = 0 by omega]
    | succ n ih =>
      by_cases hk : k = n + 1
      · rw [hk]
      · have ih := ih (by omega)
        have e2 : (vsSt l a e n).2.2 ≠ 0 := by rw [ih]; exact h
        show ((rdV l _ _).2.1, (rdV l _ _).2.2) = _
        rw [rdV_err _ _ _ e2, ← ih]
theorem ksSt_err (l : List UInt8) (a e : Int) (k : Nat) (h : (ksSt l a e k).2.2 ≠ 0) : ∀ n, k ≤ n → (ksSt l a e n).2 = (ksSt l a e k).2
  | n, hn => by
    induction n with
    | zero => rw [show k = 0 by omega]
    | succ n ih =>
      by_cases hk : k = n + 1
      · rw [hk]
      · have ih := ih (by omega)
        have e2 : (ksSt l a e n).2.2 ≠ 0 := by rw [ih]; exact h
        show ((rdT l 24 _ _).2.1, (rdT l 24 _ _).2.2) = _
        rw [rdT_err _ _ _ _ e2, ← ih]
theorem vsSt_len (l : List UInt8) (a e : Int) : ∀ n, (vsSt l a e n).1.length = n
  | 0 => rfl
  | n + 1 => by simp [vsSt, vsSt_len l a e n]
theorem ksSt_len (l : List UInt8) (a e : Int) : ∀ n, (ksSt l a e n).1.length = n
  | 0 => rfl
  | n + 1 => by simp [ksSt, ksSt_len l a e n]
theorem rdVs_err (l : List UInt8) (a e : Int) (h : e ≠ 0) : rdVs l a e = ([], a, e) := by unfold rdVs; rw [rdC_err _ _ _ _ h]; rfl
theorem rdKs_err (l : List UInt8) (a e : Int) (h : e ≠ 0) : rdKs l a e = ([], a, e) := by unfold rdKs; rw [rdC_err _ _ _ _ h]; rfl
theorem rdFt_err (l : List UInt8) (d : Bool) (a e : Int) (h : e ≠ 0) : rdFt l d a e = ([], a, e) := by unfold rdFt; split; exact rdKs_err l a e h; rfl
/-! Sizes -/
theorem takeC_le (l : List UInt8) (a m : Int) (hm : 0 ≤ m) : ((Cw.takeC l a m).1 : Int) ≤ m := by
  rcases takeC_cases l a m with ⟨u, n, h, h1, _⟩ | h
  · rw [h]; exact h1
  · obtain ⟨e, h, _⟩ := h
    rw [h]; exact hm
theorem rdC_le (l : List UInt8) (m a e : Int) (hm : 0 ≤ m) : ((rdC l m a e).1 : Int) ≤ m := by
  unfold rdC; split
  · exact takeC_le l a m hm
  · exact hm
theorem rdT_len (l : List UInt8) (m a e : Int) : (rdT l m a e).1.length ≤ l.length := by
  unfold rdT; split
  · exact takeT_sz l a m
  · simp
theorem bsize (l : List UInt8) : (⟨l.toArray⟩ : ByteArray).size = l.length := by simp [ByteArray.size]
theorem ksSt_size (l : List UInt8) (a e : Int) : ∀ n, ∀ s ∈ (ksSt l a e n).1, s.size ≤ l.length
  | 0, s, h => by cases h
  | n + 1, s, h => by
    rcases List.mem_append.1 h with h | h
    · exact ksSt_size l a e n s h
    · rw [List.mem_singleton.1 h, bsize]; exact rdT_len l 24 _ _
theorem rdVs_len (l : List UInt8) (a e : Int) : (rdVs l a e).1.length ≤ 6 := by
  unfold rdVs; rw [vsSt_len]; have := rdC_le l 6 a e (by omega); omega
theorem rdKs_len (l : List UInt8) (a e : Int) : (rdKs l a e).1.length ≤ 64 := by
  unfold rdKs; rw [ksSt_len]; have := rdC_le l 64 a e (by omega); omega
theorem rdFt_len (l : List UInt8) (d : Bool) (a e : Int) : (rdFt l d a e).1.length ≤ 64 := by
  unfold rdFt; split
  · exact rdKs_len l a e
  · simp
theorem rdFt_size (l : List UInt8) (d : Bool) (a e : Int) : ∀ s ∈ (rdFt l d a e).1, s.size ≤ l.length := by
  unfold rdFt; split
  · exact ksSt_size l _ _ _
  · intro s h; cases h
theorem m63_0 : -Cw.M63 ≤ (0 : Int) ∧ (0 : Int) < Cw.M63 := by rw [Cw.m63]; decide
theorem takeU_lt' (l : List UInt8) (a : Int) : ((Cw.takeU l a).1 : Int) < Cw.M64 := by
  rcases Cw.takeU_cases l a with ⟨u, n, h, h1, _⟩ | ⟨e, h, _⟩
  · rw [h]; exact h1
  · rw [h]; exact m64_0
theorem decV_in (l : List UInt8) (a : Int) : (decV l a).1.s.size ≤ l.length ∧ -Cw.M63 ≤ (decV l a).1.n ∧ (decV l a).1.n < Cw.M63 := by
  have z : (0 : Nat) ≤ l.length := Nat.zero_le _
  have base : vl0.s.size ≤ l.length ∧ -Cw.M63 ≤ vl0.n ∧ vl0.n < Cw.M63 := ⟨z, m63_0.1, m63_0.2⟩
  unfold decV
  split
  rename_i kd n e hU
  split
  · exact base
  · split
    · exact base
    · split
      · split
        rename_i m en e2 hI
        split
        · exact base
        · refine ⟨z, ?_⟩
          simp only
          unfold takeIv at hI
          split at hI
          rename_i u n' e' hu
          have hlt := takeU_lt' l n
          rw [hu] at hlt
          split at hI
          · have h := congrArg Prod.fst hI; simp only at h; rw [← h]; exact m63_0
          · have h := congrArg Prod.fst hI; simp only at h; rw [← h]; exact Cw.unfold_in u hlt
      · split
        · split
          rename_i t en e2 hT
          split
          · exact base
          · split
            · refine ⟨?_, m63_0.1, m63_0.2⟩
              have := takeT_sz l n 64
              rw [hT] at this
              simp only [bsize]
              exact this
            · exact base
        · exact base
theorem vsSt_in (l : List UInt8) (a e : Int) : ∀ n, ∀ v ∈ (vsSt l a e n).1, v.s.size ≤ l.length ∧ -Cw.M63 ≤ v.n ∧ v.n < Cw.M63
  | 0, s, h => by cases h
  | n + 1, s, h => by
    rcases List.mem_append.1 h with h | h
    · exact vsSt_in l a e n s h
    · rw [List.mem_singleton.1 h]
      unfold rdV; split
      · exact decV_in l _
      · exact ⟨Nat.zero_le _, m63_0.1, m63_0.2⟩
/-! A request -/
def req0 : Req := ⟨0, 0, ⟨#[]⟩, [], false, false, [], []⟩
def rqU1 (l : List UInt8) (a : Int) := rdU l a 0
def rqU2 (l : List UInt8) (a : Int) := rdU l (rqU1 l a).2.1 (rqU1 l a).2.2
def rqP (l : List UInt8) (a : Int) := rdT l 16 (rqU2 l a).2.1 (rqU2 l a).2.2
def rqV (l : List UInt8) (a : Int) := rdVs l (rqP l a).2.1 (rqP l a).2.2
def rqD (l : List UInt8) (a : Int) := rdF l (rqV l a).2.1 (rqV l a).2.2
def rqR (l : List UInt8) (a : Int) := rdFt l (rqD l a).1 (rqD l a).2.1 (rqD l a).2.2
def rqW (l : List UInt8) (a : Int) := rdFt l (rqD l a).1 (rqR l a).2.1 (rqR l a).2.2
def rqX (l : List UInt8) (a : Int) : Req := ⟨(rqU1 l a).1, (rqU2 l a).1, ⟨(rqP l a).1.toArray⟩, (rqV l a).1, (rqD l a).1, false, (rqR l a).1, (rqW l a).1⟩
def decReq (l : List UInt8) (a : Int) : Req × Int × Int :=
  if (rqW l a).2.2 ≠ 0 then (req0, 0, (rqW l a).2.2)
  else if 32 < (rqU1 l a).1 ∨ 1099511627776 < (rqU2 l a).1 then (req0, 0, 5)
  else if reqE (rqX l a) ≠ 0 then (req0, 0, 5) else (rqX l a, (rqW l a).2.1, 0)
theorem rqX_fit (l : List UInt8) (a : Int) (hl : l.length ≤ 1073741824) : (rqX l a).fit := by
  have h1 := rdT_len l 16 (rqU2 l a).2.1 (rqU2 l a).2.2
  have h2 : (rqV l a).1.length ≤ 6 := rdVs_len l _ _
  have h3 : (rqR l a).1.length ≤ 64 := rdFt_len l _ _ _
  have h4 : (rqW l a).1.length ≤ 64 := rdFt_len l _ _ _
  refine ⟨?_, ?_, fun v hv => ?_, ⟨?_, fun s hs => ?_⟩, ⟨?_, fun s hs => ?_⟩, fun v hv => ?_⟩
  · show (⟨(rqP l a).1.toArray⟩ : ByteArray).size ≤ _
    rw [bsize]; unfold rqP; omega
  · show (rqV l a).1.length * 8 ≤ _
    omega
  · have := (vsSt_in l _ _ _ v hv).1; omega
  · show (rqR l a).1.length * 8 ≤ _
    omega
  · have := rdFt_size l _ _ _ s hs; omega
  · show (rqW l a).1.length * 8 ≤ _
    omega
  · have := rdFt_size l _ _ _ s hs; omega
  · exact (vsSt_in l _ _ _ v hv).2
def decReqV (x : Req × Int × Int) : AV := .tup [.agg x.1.row, .a (.int .i64 x.2.1), .a (.int .i64 x.2.2)]
/-! Lists of requests -/
def rsSt (l : List UInt8) (a : Int) : Nat → List Req × Int × Int
  | 0 => ([], a, 0)
  | k + 1 => if (rsSt l a k).2.2 ≠ 0 then rsSt l a k else ((rsSt l a k).1 ++ [(decReq l (rsSt l a k).2.1).1], (decReq l (rsSt l a k).2.1).2.1, (decReq l (rsSt l a k).2.1).2.2)
def decReqs (l : List UInt8) (a : Int) : List Req × Int × Int :=
  if (Cw.takeC l a 64).2.2 ≠ 0 then ([], 0, (Cw.takeC l a 64).2.2)
  else if (rsSt l (Cw.takeC l a 64).2.1 (Cw.takeC l a 64).1).2.2 ≠ 0 then ([], 0, (rsSt l (Cw.takeC l a 64).2.1 (Cw.takeC l a 64).1).2.2)
  else rsSt l (Cw.takeC l a 64).2.1 (Cw.takeC l a 64).1
end Go.Proofs.Ytpnihinmlmoogaa

/- The reader of requests: its methods. -/
namespace Go.Proofs.Ytpnihinmlmoogaa
open Go Ab Go.RowKit
attribute [local irreducible] awp aops aop asoft aeff aloop acall acallI acallT acallK
attribute [local go_sem] Vl.row sRow

def rdr (s : ByteArray) (a e : Int) : List AV := [.a (.str s), .a (.int .i64 a), .a (.int .i64 e)]
theorem boundS_mono {n n' m m' : Nat} (hn : n ≤ n') (hm : m ≤ m') {x : AV} (h : boundS n m x = true) : boundS n' m' x = true := by
  unfold boundS at h ⊢
  split at h <;> first | (simp only [decide_eq_true_eq] at h ⊢; omega) | rfl | exact h | cases h
theorem boundV_mono {n n' m m' : Nat} (hn : n ≤ n') (hm : m ≤ m') {x : AV} (h : Ab.boundV n m x = true) : Ab.boundV n' m' x = true := by
  have key : ∀ xs : List AV, xs.all (boundS n m) = true → xs.all (boundS n' m') = true := fun xs h => List.all_eq_true.2 fun y hy => boundS_mono hn hm (List.all_eq_true.1 h y hy)
  cases x <;> first | exact key _ h | (simp only [Ab.boundV] at h ⊢; exact boundS_mono hn hm h)
theorem boundL_mono {n n' m m' : Nat} (hn : n ≤ n') (hm : m ≤ m') {H : List (List AV)} (h : H.all (·.all (Ab.boundV n m)) = true) : H.all (·.all (Ab.boundV n' m')) = true :=
  List.all_eq_true.2 fun cs hc => List.all_eq_true.2 fun x hx => boundV_mono hn hm (List.all_eq_true.1 (List.all_eq_true.1 h cs hc) x hx)
theorem rdr_bound {h0 : List AV} {hs : List (List AV)} {O : List OwnD} (s : ByteArray) (a e : Int) (hb : (h0 :: hs).all (·.all (Ab.boundV (hs.length + 2) O.length)) = true) :
    (h0 :: rdr s a e :: hs).all (·.all (Ab.boundV (h0 :: rdr s a e :: hs).length O.length)) = true := by
  simp only [List.all_cons, Bool.and_eq_true] at hb
  simp only [List.all_cons, List.length_cons, Bool.and_eq_true]
  exact ⟨hb.1, rfl, hb.2⟩
theorem z00 : ((0 : Int) != 0) = false := rfl
variable {h0 : List AV} {hs : List (List AV)} {O : List OwnD}
set_option maxRecDepth 100000 in
set_option maxHeartbeats 4000000 in
theorem took_iden (s : ByteArray) (a e a' e' : Int) (hb : (h0 :: hs).all (·.all (Ab.boundV (hs.length + 2) O.length)) = true) :
    IDen Try.prog 115 [.loc 1 0, .a (.int .i64 a'), .a (.int .i64 e')] (h0 :: rdr s a e :: hs) O (.tup []) (h0 :: rdr s a' e' :: hs) O true := by
  refine iden_of_bodyK rfl k_batch_reader_took ⟨rfl, Nat.le_of_ble_eq_true rfl, ⟨by simp, (rdr_bound s a' e' hb), rfl⟩, thaw_intro ?_⟩
  unfold c_batch_reader_took
  unfold rdr
  simp only [go_sem]
  exact ⟨by first | rfl | (simp only [aresultI, aresI, aggI, go_sem]; done) | (simp only [aresultI, aresI, aggI, go_sem]; rfl), by simp⟩
set_option maxRecDepth 100000 in
set_option maxHeartbeats 4000000 in
theorem number_iden (s : ByteArray) (a e : Int) (hs0 : s.size ≤ 1073741824) (hb : (h0 :: hs).all (·.all (Ab.boundV (hs.length + 2) O.length)) = true) :
    IDen Try.prog 98 [.loc 1 0] (h0 :: rdr s a e :: hs) O (.a (.int .u64 (rdU s.data.toList a e).1)) (h0 :: rdr s (rdU s.data.toList a e).2.1 (rdU s.data.toList a e).2.2 :: hs) O true := by
  refine iden_of_bodyK rfl k_batch_reader_number ⟨rfl, Nat.le_of_ble_eq_true rfl, ⟨by simp, (rdr_bound s _ _ hb), rfl⟩, thaw_intro ?_⟩
  unfold c_batch_reader_number
  have ht := fun a' e' => took_iden (h0 := h0) (hs := hs) (O := O) s a e a' e' hb
  by_cases he : e = 0
  · subst he
    rw [rdU_ok]
    unfold rdr at ht ⊢
    simp only [z00, go_sem]
    refine t_call_intro (wtakeuint_den s a hs0) ?_
    simp only [takeUV, go_sem]
    refine t_callK_intro (ht _ _) (by simp) ?_
    simp only [go_sem]
    exact ⟨by first | rfl | (simp only [aresultI, aresI, aggI, go_sem]; done) | (simp only [aresultI, aresI, aggI, go_sem]; rfl), by simp⟩
  · rw [rdU_err _ _ _ he]
    have h1 : (e != 0) = true := by simpa using he
    unfold rdr at ht ⊢
    simp only [h1, go_sem]
    exact ⟨by first | rfl | (simp only [aresultI, aresI, aggI, go_sem]; done) | (simp only [aresultI, aresI, aggI, go_sem]; rfl), by simp⟩
set_option maxRecDepth 100000 in
set_option maxHeartbeats 4000000 in
theorem text_iden (s : ByteArray) (m a e : Int) (hs0 : s.size ≤ 1073741824) (hm : m ≤ 9223372036854775807) (hb : (h0 :: hs).all (·.all (Ab.boundV (hs.length + 2) O.length)) = true) :
    IDen Try.prog 99 [.loc 1 0, .a (.int .i64 m)] (h0 :: rdr s a e :: hs) O (.a (.str ⟨(rdT s.data.toList m a e).1.toArray⟩)) (h0 :: rdr s (rdT s.data.toList m a e).2.1 (rdT s.data.toList m a e).2.2 :: hs) O true := by
  refine iden_of_bodyK rfl k_batch_reader_text ⟨rfl, Nat.le_of_ble_eq_true rfl, ⟨by simp, (rdr_bound s _ _ hb), rfl⟩, thaw_intro ?_⟩
  unfold c_batch_reader_text
  have ht := fun a' e' => took_iden (h0 := h0) (hs := hs) (O := O) s a e a' e' hb
  by_cases he : e = 0
  · subst he
    rw [rdT_ok]
    unfold rdr at ht ⊢
    simp only [z00, go_sem]
    refine t_call_intro (wtaketext_den s a m hs0 hm) ?_
    simp only [takeTV, go_sem]
    refine t_callK_intro (ht _ _) (by simp) ?_
    simp only [go_sem]
    exact ⟨by first | rfl | (simp only [aresultI, aresI, aggI, go_sem]; done) | (simp only [aresultI, aresI, aggI, go_sem]; rfl), by simp⟩
  · rw [rdT_err _ _ _ _ he]
    have h1 : (e != 0) = true := by simpa using he
    unfold rdr at ht ⊢
    simp only [h1, go_sem]
    exact ⟨by first | rfl | (simp only [aresultI, aresI, aggI, go_sem]; done) | (simp only [aresultI, aresI, aggI, go_sem]; rfl), by simp⟩
set_option maxRecDepth 100000 in
set_option maxHeartbeats 4000000 in
theorem count_iden (s : ByteArray) (m a e : Int) (hs0 : s.size ≤ 1073741824) (hm : m ≤ 9223372036854775807) (hb : (h0 :: hs).all (·.all (Ab.boundV (hs.length + 2) O.length)) = true) :
    IDen Try.prog 100 [.loc 1 0, .a (.int .i64 m)] (h0 :: rdr s a e :: hs) O (.a (.int .i64 (rdC s.data.toList m a e).1)) (h0 :: rdr s (rdC s.data.toList m a e).2.1 (rdC s.data.toList m a e).2.2 :: hs) O true := by
  refine iden_of_bodyK rfl k_batch_reader_count ⟨rfl, Nat.le_of_ble_eq_true rfl, ⟨by simp, (rdr_bound s _ _ hb), rfl⟩, thaw_intro ?_⟩
  unfold c_batch_reader_count
  have ht := fun a' e' => took_iden (h0 := h0) (hs := hs) (O := O) s a e a' e' hb
  by_cases he : e = 0
  · subst he
    rw [rdC_ok]
    unfold rdr at ht ⊢
    simp only [z00, go_sem]
    refine t_call_intro (wtakecount_den s a m hs0 hm) ?_
    simp only [takeCV, go_sem]
    refine t_callK_intro (ht _ _) (by simp) ?_
    simp only [go_sem]
    exact ⟨by first | rfl | (simp only [aresultI, aresI, aggI, go_sem]; done) | (simp only [aresultI, aresI, aggI, go_sem]; rfl), by simp⟩
  · rw [rdC_err _ _ _ _ he]
    have h1 : (e != 0) = true := by simpa using he
    unfold rdr at ht ⊢
    simp only [h1, go_sem]
    exact ⟨by first | rfl | (simp only [aresultI, aresI, aggI, go_sem]; done) | (simp only [aresultI, aresI, aggI, go_sem]; rfl), by simp⟩
set_option maxRecDepth 100000 in
set_option maxHeartbeats 4000000 in
theorem flag_iden (s : ByteArray) (a e : Int) (hs0 : s.size ≤ 1073741824) (hb : (h0 :: hs).all (·.all (Ab.boundV (hs.length + 2) O.length)) = true) :
    IDen Try.prog 102 [.loc 1 0] (h0 :: rdr s a e :: hs) O (.a (.bool (rdF s.data.toList a e).1)) (h0 :: rdr s (rdF s.data.toList a e).2.1 (rdF s.data.toList a e).2.2 :: hs) O true := by
  refine iden_of_bodyK rfl k_batch_reader_flag ⟨rfl, Nat.le_of_ble_eq_true rfl, ⟨by simp, (rdr_bound s _ _ hb), rfl⟩, thaw_intro ?_⟩
  unfold c_batch_reader_flag
  have ht := fun a' e' => took_iden (h0 := h0) (hs := hs) (O := O) s a e a' e' hb
  by_cases he : e = 0
  · subst he
    rw [rdF_ok]
    unfold rdr at ht ⊢
    simp only [z00, go_sem]
    refine t_call_intro (wtakebool_den s a hs0) ?_
    simp only [takeBV, go_sem]
    refine t_callK_intro (ht _ _) (by simp) ?_
    simp only [go_sem]
    exact ⟨by first | rfl | (simp only [aresultI, aresI, aggI, go_sem]; done) | (simp only [aresultI, aresI, aggI, go_sem]; rfl), by simp⟩
  · rw [rdF_err _ _ _ he]
    have h1 : (e != 0) = true := by simpa using he
    unfold rdr at ht ⊢
    simp only [h1, go_sem]
    exact ⟨by first | rfl | (simp only [aresultI, aresI, aggI, go_sem]; done) | (simp only [aresultI, aresI, aggI, go_sem]; rfl), by simp⟩
set_option maxRecDepth 100000 in
set_option maxHeartbeats 4000000 in
theorem value_iden {h2 : List AV} (s : ByteArray) (a e : Int) (hs0 : s.size ≤ 1073741824) (hb : [h0, h2].all (·.all (Ab.boundV 3 O.length)) = true) :
    IDen Try.prog 101 [.loc 1 0] [h0, rdr s a e, h2] O (.agg (rdV s.data.toList a e).1.row) [h0, rdr s (rdV s.data.toList a e).2.1 (rdV s.data.toList a e).2.2, h2] O true := by
  refine iden_of_bodyK rfl k_batch_reader_value ⟨rfl, Nat.le_of_ble_eq_true rfl, ⟨by simp, (rdr_bound (hs := [h2]) s _ _ hb), rfl⟩, thaw_intro ?_⟩
  unfold c_batch_reader_value
  have mono : [h0, h2].all (·.all (Ab.boundV 5 O.length)) = true := boundL_mono (by omega) (Nat.le_refl _) hb
  by_cases he : e = 0
  · subst he
    rw [rdV_ok]
    unfold rdr
    simp only [z00, go_sem]
    refine t_call_intro (vdec_den s a hs0) ?_
    simp only [decVV, go_sem]
    refine t_callK_intro ((took_iden (h0 := h0) (hs := [h2, _, _]) (O := O) s a 0 _ _ (by simp only [List.all_cons, List.all_nil, Bool.and_eq_true, Bool.and_true] at mono ⊢; exact ⟨mono.1, mono.2, ⟨rfl, rfl, rfl⟩, rfl, rfl, rfl⟩))) (by simp) ?_
    simp only [rdr, go_sem]
    first | rfl | (simp only [aresultI, aresI, aggI, go_sem]; done) | (simp only [aresultI, aresI, aggI, go_sem]; rfl)
  · rw [rdV_err _ _ _ he]
    have h1 : (e != 0) = true := by simpa using he
    unfold rdr
    simp only [h1, go_sem]
    first | rfl | (simp only [aresultI, aresI, aggI, go_sem]; done) | (simp only [aresultI, aresI, aggI, go_sem]; rfl)
theorem take_snoc {α : Type} (O : List α) (d : α) : (O ++ [d]).take (O.length + 1) = O ++ [d] := List.take_of_length_le (by simp)
theorem gate16 (n : Nat) (h : n ≤ 1000) : (n + 1 + (n + 1) / 4 + 192) * 16 ≤ 281474976710656 ∧ n + 1 ≤ 9223372036854775807 := by omega
theorem ksSt_ml (l : List UInt8) (a e : Int) (n : Nat) : ((ksSt l a e n).1.map sRow).length = n := by rw [List.length_map, ksSt_len]
set_option maxRecDepth 100000 in
set_option maxHeartbeats 4000000 in
theorem keys_iden {h2 : List AV} (s : ByteArray) (a e : Int) (hs0 : s.size ≤ 1073741824) (hb : [h0, h2].all (·.all (Ab.boundV 3 O.length)) = true) (hq0 : h0.map (inval O.length) = h0) (hq2 : h2.map (inval O.length) = h2) :
    IDen Try.prog 103 [.loc 1 0] [h0, rdr s a e, h2] O (.own O.length) [h0, rdr s (rdKs s.data.toList a e).2.1 (rdKs s.data.toList a e).2.2, h2] (O ++ [⟨9, 1, (rdKs s.data.toList a e).1.map sRow, false⟩]) false := by
  have hbm : [h0, h2].all (·.all (Ab.boundV 3 (O.length + 1))) = true := boundL_mono (Nat.le_refl _) (Nat.le_succ _) hb
  have hb1 : [h0, h2].all (·.all (Ab.boundV 3 O.length)) = true := hb
  have hbm0 : h0.all (Ab.boundV 3 (O.length + 1)) = true := by simp only [List.all_cons, List.all_nil, Bool.and_eq_true, Bool.and_true] at hbm; exact hbm.1
  have hbm2 : h2.all (Ab.boundV 3 (O.length + 1)) = true := by simp only [List.all_cons, List.all_nil, Bool.and_eq_true, Bool.and_true] at hbm; exact hbm.2
  refine iden_of_body k_batch_reader_keys ⟨rfl, Nat.le_of_ble_eq_true rfl, ⟨by simp, by simp [rdr, Ab.boundV, boundS, hbm0, hbm2], by simp [Ab.boundV, boundS]⟩, thaw_intro ?_⟩
  unfold c_batch_reader_keys
  have hn := rdC_le s.data.toList 64 a e (by omega)
  simp only [go_sem]
  refine t_callI_intro (count_iden (hs := [h2]) s 64 a e hs0 (by omega) hb) ?_
  simp only [go_sem]
  unfold rdKs
  generalize rdC s.data.toList 64 a e = C at hn ⊢
  obtain ⟨n, a1, e1⟩ := C
  simp only [] at hn ⊢
  generalize hL : s.data.toList = L
  refine t_loopO_intro [.slot 3 9 1] (fun k : Nat => k ≤ n) (fun k => n - k) 0 [3, 6, 7, 8, 9, 10, 11, 12, 13] (fun k => [(3, .own O.length), (6, .a (.int .i64 k))]) (fun k => [h0, rdr s (ksSt L a1 e1 k).2.1 (ksSt L a1 e1 k).2.2, h2]) (fun k => O ++ [⟨9, 1, (ksSt L a1 e1 k).1.map sRow, false⟩]) (by omega) (by simp) (by first | (simp; done) | simp [hbm0, hbm2, rdr, Ab.boundV, boundS, ksSt, take_snoc]) (by first | (simp; done) | simp [hbm0, hbm2, rdr, Ab.boundV, boundS, ksSt, take_snoc]) (by first | (simp; done) | simp [hbm0, hbm2, rdr, Ab.boundV, boundS, ksSt, take_snoc]) (fun k => by first | (simp; done) | simp [hbm0, hbm2, rdr, Ab.boundV, boundS, ksSt, take_snoc]) (fun k => by first | (simp; done) | simp [hbm0, hbm2, rdr, Ab.boundV, boundS, ksSt, take_snoc]) (fun k => by first | (simp; done) | simp [hbm0, hbm2, rdr, Ab.boundV, boundS, ksSt, take_snoc]) ?_
  intro k hk st_ hst
  simp only [go_sem] at hst
  subst hst
  by_cases hlt : k < n
  · have h3 : (k : Int) < (n : Int) := by omega
    have ekn := wrap1 k n hlt (by omega)
    have ht := text_iden (h0 := h0) (hs := [h2]) (O := O ++ [⟨9, 1, (ksSt L a1 e1 k).1.map sRow, false⟩]) s 24 (ksSt L a1 e1 k).2.1 (ksSt L a1 e1 k).2.2 hs0 (by omega) (by simpa using hbm)
    rw [hL] at ht
    have eg : ∀ d : OwnD, (O ++ [d]).getD O.length default = d := fun d => by simp
    have es : ∀ d d' : OwnD, (O ++ [d]).set O.length d' = O ++ [d'] := fun d d' => by simp
    have er : (rdr s (rdT L 24 (ksSt L a1 e1 k).2.1 (ksSt L a1 e1 k).2.2).2.1 (rdT L 24 (ksSt L a1 e1 k).2.1 (ksSt L a1 e1 k).2.2).2.2).map (inval O.length) = rdr s (ksSt L a1 e1 (k + 1)).2.1 (ksSt L a1 e1 (k + 1)).2.2 := rfl
    have eo : (ksSt L a1 e1 k).1.map sRow ++ [[Atom.str ⟨(rdT L 24 (ksSt L a1 e1 k).2.1 (ksSt L a1 e1 k).2.2).1.toArray⟩]] = (ksSt L a1 e1 (k + 1)).1.map sRow := by simp [ksSt, sRow]
    have em := ksSt_len L a1 e1 k
    simp only [h3, go_sem]
    refine t_callK_intro (ht) (by simp) ?_
    simp only [eg, es, go_sem]
    refine t_gate_intro (by rw [em]; omega) ?_
    simp only [hq0, hq2, er, es, eo, ekn, go_sem]
    refine t_roundO (k + 1) (by omega) (by omega) (by first | (simp; done) | simp [take_snoc, hbm0, hbm2, rdr, Ab.boundV, boundS]) (by first | (simp; done) | simp [take_snoc, hbm0, hbm2, rdr, Ab.boundV, boundS]) (by first | (simp; done) | simp [take_snoc, hbm0, hbm2, rdr, Ab.boundV, boundS]) (by first | (simp; done) | simp [take_snoc, hbm0, hbm2, rdr, Ab.boundV, boundS]) (by first | (simp; done) | simp [take_snoc, hbm0, hbm2, rdr, Ab.boundV, boundS])
  · have h3 : ¬ (k : Int) < (n : Int) := by omega
    have hke : k = n := by omega
    subst hke
    simp only [h3, go_sem]

    first | rfl | (simp only [aresultI, aresI, aggI, go_sem]; done) | (simp only [aresultI, aresI, aggI, go_sem]; rfl)
end Go.Proofs.Ytpnihinmlmoogaa

/- DecodeRequest: what it computes. -/
namespace Go.Proofs.Ytpnihinmlmoogaa
open Go Ab Go.RowKit
attribute [local irreducible] awp aops aop asoft aeff aloop acall acallI acallT acallK
attribute [local go_sem] sRow Vl.row

def reqZ : List Atom := [.int .i64 0, .int .i64 0, .str ⟨#[]⟩, .nils, .bool false, .bool false, .nils, .nils]
def rowN (r : Req) : List Atom := [.int .i64 r.cl, .int .i64 r.sq, .str r.pr, .slice 3 (r.args.map Vl.row), .bool r.dc, .bool r.al, if r.dc = true then .slice 1 (r.rd.map sRow) else .nils, if r.dc = true then .slice 1 (r.wt.map sRow) else .nils]
def rqC (l : List UInt8) (a : Int) := rdC l 6 (rqP l a).2.1 (rqP l a).2.2
def decReqN (l : List UInt8) (a : Int) : AV :=
  if (rqW l a).2.2 ≠ 0 then .tup [.agg reqZ, .a (.int .i64 0), .a (.int .i64 (rqW l a).2.2)]
  else if 32 < (rqU1 l a).1 ∨ 1099511627776 < (rqU2 l a).1 then .tup [.agg reqZ, .a (.int .i64 0), .a (.int .i64 5)]
  else if reqE (rqX l a) ≠ 0 then .tup [.agg reqZ, .a (.int .i64 0), .a (.int .i64 5)] else .tup [.agg (rowN (rqX l a)), .a (.int .i64 (rqW l a).2.1), .a (.int .i64 0)]
def xc (pr : ByteArray) (v : AV) (d : Bool) (x y : AV) : List AV := [.a (.int .i64 0), .a (.int .i64 0), .a (.str pr), v, .a (.bool d), .a (.bool false), x, y]
def z8 : List AV := [.a (.int .i64 0), .a (.int .i64 0), .a (.str ⟨#[]⟩), .a .nils, .a (.bool false), .a (.bool false), .a .nils, .a .nils]
attribute [local simp] xc z8 rdr in
set_option maxRecDepth 100000 in
set_option maxHeartbeats 4000000 in
theorem decReq_N (s : ByteArray) (at_ : Int) (hs0 : s.size ≤ 1073741824) : PDen Try.prog 78 [.a (.str s), .a (.int .i64 at_)] (decReqN s.data.toList at_) := by
  have hlen : s.data.toList.length ≤ 1073741824 := by rw [dsize]; exact hs0
  generalize hL : s.data.toList = L at hlen ⊢
  have c1 : IDen Try.prog 98 [.loc 1 0] [z8, rdr s at_ 0] [] (.a (.int .u64 (rqU1 L at_).1)) [z8, rdr s (rqU1 L at_).2.1 (rqU1 L at_).2.2] [] true := by
    have := number_iden (h0 := z8) (hs := []) (O := []) s at_ 0 hs0 rfl
    rw [hL] at this; exact this
  have c2 : IDen Try.prog 98 [.loc 1 0] [z8, rdr s (rqU1 L at_).2.1 (rqU1 L at_).2.2] [] (.a (.int .u64 (rqU2 L at_).1)) [z8, rdr s (rqU2 L at_).2.1 (rqU2 L at_).2.2] [] true := by
    have := number_iden (h0 := z8) (hs := []) (O := []) s (rqU1 L at_).2.1 (rqU1 L at_).2.2 hs0 rfl
    rw [hL] at this; exact this
  have c3 : IDen Try.prog 99 [.loc 1 0, .a (.int .i64 16)] [z8, rdr s (rqU2 L at_).2.1 (rqU2 L at_).2.2] [] (.a (.str ⟨(rqP L at_).1.toArray⟩)) [z8, rdr s (rqP L at_).2.1 (rqP L at_).2.2] [] true := by
    have := text_iden (h0 := z8) (hs := []) (O := []) s 16 (rqU2 L at_).2.1 (rqU2 L at_).2.2 hs0 (by omega) rfl
    rw [hL] at this; exact this
  refine den_of_body k_batch_DecodeRequest ⟨rfl, Nat.le_of_ble_eq_true rfl, thaw_intro ?_⟩
  unfold c_batch_DecodeRequest
  simp only [go_sem]
  refine t_callI_intro c1 ?_
  simp only [go_sem]
  refine t_callI_intro c2 ?_
  simp only [go_sem]
  refine t_callI_intro c3 ?_
  simp only [go_sem]
  have c4 : IDen Try.prog 100 [.loc 1 0, .a (.int .i64 6)] [z8, rdr s (rqP L at_).2.1 (rqP L at_).2.2, xc ⟨(rqP L at_).1.toArray⟩ (.a .nils) false (.a .nils) (.a .nils)] [] (.a (.int .i64 (rqC L at_).1)) [z8, rdr s (rqC L at_).2.1 (rqC L at_).2.2, xc ⟨(rqP L at_).1.toArray⟩ (.a .nils) false (.a .nils) (.a .nils)] [] true := by
    have := count_iden (h0 := z8) (hs := [xc ⟨(rqP L at_).1.toArray⟩ (.a .nils) false (.a .nils) (.a .nils)]) (O := []) s 6 (rqP L at_).2.1 (rqP L at_).2.2 hs0 (by omega) rfl
    rw [hL] at this; exact this
  refine t_callI_intro c4 ?_
  simp only [go_sem]
  have hn : ((rqC L at_).1 : Int) ≤ 6 := rdC_le L 6 _ _ (by omega)
  have eV : rqV L at_ = vsSt L (rqC L at_).2.1 (rqC L at_).2.2 (rqC L at_).1 := rfl
  generalize hC : rqC L at_ = C at hn eV
  obtain ⟨n, a1, e1⟩ := C
  simp only [] at hn eV
  refine t_loopO_intro [.cell 2 3 80 3] (fun k : Nat => k ≤ n) (fun k => n - k) 0 [24, 25, 26, 27, 28, 29, 30, 31, 32, 33] (fun k => [(24, .a (.int .i64 k))]) (fun k => [z8, rdr s (vsSt L a1 e1 k).2.1 (vsSt L a1 e1 k).2.2, xc ⟨(rqP L at_).1.toArray⟩ (.own 0) false (.a .nils) (.a .nils)]) (fun k => [⟨80, 3, (vsSt L a1 e1 k).1.map Vl.row, false⟩]) (by omega) (by simp) (by first | (simp; done) | simp [rdr, z8, xc, vsSt, Ab.boundV, boundS]) (by first | (simp; done) | simp [rdr, z8, xc, vsSt, Ab.boundV, boundS]) (by first | (simp; done) | simp [rdr, z8, xc, vsSt, Ab.boundV, boundS]) (fun k => by first | (simp; done) | simp [rdr, z8, xc, vsSt, Ab.boundV, boundS]) (fun k => by first | (simp; done) | simp [rdr, z8, xc, vsSt, Ab.boundV, boundS]) (fun k => by first | (simp; done) | simp [rdr, z8, xc, vsSt, Ab.boundV, boundS]) ?_
  intro k hk st_ hst
  simp only [go_sem] at hst
  subst hst
  by_cases hlt : k < n
  · have h3 : (k : Int) < (n : Int) := by omega
    have ekn := wrap1 k n hlt (by omega)
    have hv : IDen Try.prog 101 [.loc 1 0] [z8, rdr s (vsSt L a1 e1 k).2.1 (vsSt L a1 e1 k).2.2, xc ⟨(rqP L at_).1.toArray⟩ (.own 0) false (.a .nils) (.a .nils)] [⟨80, 3, (vsSt L a1 e1 k).1.map Vl.row, false⟩] (.agg (rdV L (vsSt L a1 e1 k).2.1 (vsSt L a1 e1 k).2.2).1.row) [z8, rdr s (vsSt L a1 e1 (k + 1)).2.1 (vsSt L a1 e1 (k + 1)).2.2, xc ⟨(rqP L at_).1.toArray⟩ (.own 0) false (.a .nils) (.a .nils)] [⟨80, 3, (vsSt L a1 e1 k).1.map Vl.row, false⟩] true := by
      have := value_iden (h0 := z8) (h2 := xc ⟨(rqP L at_).1.toArray⟩ (.own 0) false (.a .nils) (.a .nils)) (O := [⟨80, 3, (vsSt L a1 e1 k).1.map Vl.row, false⟩]) s (vsSt L a1 e1 k).2.1 (vsSt L a1 e1 k).2.2 hs0 rfl
      rw [hL] at this; exact this
    have eo : (vsSt L a1 e1 k).1.map Vl.row ++ [[.int .i64 (rdV L (vsSt L a1 e1 k).2.1 (vsSt L a1 e1 k).2.2).1.kind, .int .i64 (rdV L (vsSt L a1 e1 k).2.1 (vsSt L a1 e1 k).2.2).1.n, .str (rdV L (vsSt L a1 e1 k).2.1 (vsSt L a1 e1 k).2.2).1.s]] = (vsSt L a1 e1 (k + 1)).1.map Vl.row := by simp [vsSt, Vl.row]
    have em := vsSt_len L a1 e1 k
    simp only [h3, go_sem]
    refine t_two_intro ?_ ?_
    · simp only [xc, go_sem]
      refine t_callK_intro hv (by simp) ?_
      simp only [xc, go_sem]
      refine t_gate_intro (by rw [em]; omega) ?_
      simp only [ekn, eo, go_sem]
      refine t_roundO (k + 1) (by omega) (by omega) (by first | (simp; done) | simp [Ab.inval]) (by first | (simp; done) | simp [Ab.inval]) (by first | (simp; done) | simp [Ab.inval]) (by first | (simp; done) | simp [Ab.inval]) (by first | (simp; done) | simp [Ab.inval])
    · simp only [xc, go_sem]
      refine t_callK_intro hv (by simp) ?_
      simp only [xc, go_sem]
      refine t_gate_intro (by rw [em]; omega) ?_
      simp only [ekn, eo, go_sem]
      refine t_roundO (k + 1) (by omega) (by omega) (by first | (simp; done) | simp [Ab.inval]) (by first | (simp; done) | simp [Ab.inval]) (by first | (simp; done) | simp [Ab.inval]) (by first | (simp; done) | simp [Ab.inval]) (by first | (simp; done) | simp [Ab.inval])
  · have h3 : ¬ (k : Int) < (n : Int) := by omega
    have hke : k = n := by omega
    subst hke
    rw [← eV]
    simp only [h3, go_sem]
    have cF : IDen Try.prog 102 [.loc 1 0] [z8, rdr s (rqV L at_).2.1 (rqV L at_).2.2, xc ⟨(rqP L at_).1.toArray⟩ (.own 0) false (.a .nils) (.a .nils)] [⟨80, 3, (rqV L at_).1.map Vl.row, false⟩] (.a (.bool (rqD L at_).1)) [z8, rdr s (rqD L at_).2.1 (rqD L at_).2.2, xc ⟨(rqP L at_).1.toArray⟩ (.own 0) false (.a .nils) (.a .nils)] [⟨80, 3, (rqV L at_).1.map Vl.row, false⟩] true := by
      have := flag_iden (h0 := z8) (hs := [xc ⟨(rqP L at_).1.toArray⟩ (.own 0) false (.a .nils) (.a .nils)]) (O := [⟨80, 3, (rqV L at_).1.map Vl.row, false⟩]) s (rqV L at_).2.1 (rqV L at_).2.2 hs0 rfl
      rw [hL] at this; exact this
    refine t_callI_intro cF ?_
    simp only [xc, go_sem]
    first | refine t_case_dec (fun hd => ?_) (fun hd => ?_) | refine t_case_ndec (fun hd => ?_) (fun hd => ?_) | refine t_case_eqI (fun hd => ?_) (fun hd => ?_) | refine t_case_neI (fun hd => ?_) (fun hd => ?_) | refine t_case_not (fun hd => ?_) (fun hd => ?_) | refine t_case_intro (fun hd => ?_) (fun hd => ?_)
    · have eR : rqR L at_ = rdKs L (rqD L at_).2.1 (rqD L at_).2.2 := by unfold rqR rdFt; rw [if_pos hd]
      have eW : rqW L at_ = rdKs L (rqR L at_).2.1 (rqR L at_).2.2 := by unfold rqW rdFt; rw [if_pos hd]
      have cR : IDen Try.prog 103 [.loc 1 0] [z8, rdr s (rqD L at_).2.1 (rqD L at_).2.2, xc ⟨(rqP L at_).1.toArray⟩ (.own 0) (rqD L at_).1 (.a .nils) (.a .nils)] [⟨80, 3, (rqV L at_).1.map Vl.row, false⟩] (.own 1) [z8, rdr s (rqR L at_).2.1 (rqR L at_).2.2, xc ⟨(rqP L at_).1.toArray⟩ (.own 0) (rqD L at_).1 (.a .nils) (.a .nils)] [⟨80, 3, (rqV L at_).1.map Vl.row, false⟩, ⟨9, 1, (rqR L at_).1.map sRow, false⟩] false := by
        have := keys_iden (h0 := z8) (h2 := xc ⟨(rqP L at_).1.toArray⟩ (.own 0) (rqD L at_).1 (.a .nils) (.a .nils)) (O := [⟨80, 3, (rqV L at_).1.map Vl.row, false⟩]) s (rqD L at_).2.1 (rqD L at_).2.2 hs0 rfl rfl rfl
        rw [hL, ← eR] at this; exact this
      have cW : IDen Try.prog 103 [.loc 1 0] [z8, rdr s (rqR L at_).2.1 (rqR L at_).2.2, xc ⟨(rqP L at_).1.toArray⟩ (.own 0) (rqD L at_).1 (.own 1) (.a .nils)] [⟨80, 3, (rqV L at_).1.map Vl.row, false⟩, ⟨9, 1, (rqR L at_).1.map sRow, false⟩] (.own 2) [z8, rdr s (rqW L at_).2.1 (rqW L at_).2.2, xc ⟨(rqP L at_).1.toArray⟩ (.own 0) (rqD L at_).1 (.own 1) (.a .nils)] [⟨80, 3, (rqV L at_).1.map Vl.row, false⟩, ⟨9, 1, (rqR L at_).1.map sRow, false⟩, ⟨9, 1, (rqW L at_).1.map sRow, false⟩] false := by
        have := keys_iden (h0 := z8) (h2 := xc ⟨(rqP L at_).1.toArray⟩ (.own 0) (rqD L at_).1 (.own 1) (.a .nils)) (O := [⟨80, 3, (rqV L at_).1.map Vl.row, false⟩, ⟨9, 1, (rqR L at_).1.map sRow, false⟩]) s (rqR L at_).2.1 (rqR L at_).2.2 hs0 rfl rfl rfl
        rw [hL, ← eW] at this; exact this
      simp only [xc, go_sem]
      refine t_callI_intro cR ?_
      simp only [xc, go_sem]
      refine t_callI_intro cW ?_
      simp only [xc, rdr, go_sem]
      refine t_case_neI (fun he => ?_) (fun he => ?_)
      · by_cases h32 : (32 : Int) < ((rqU1 L at_).1 : Int)
        · have er : decReqN L at_ = .tup [.agg reqZ, .a (.int .i64 0), .a (.int .i64 5)] := by unfold decReqN; rw [if_neg (by simpa using he), if_pos (by omega)]
          rw [er]
          simp only [h32, z8, go_sem]
          simp only [aresult, ares, go_sem]
          rfl
        · by_cases h40 : (1099511627776 : Int) < ((rqU2 L at_).1 : Int)
          · have er : decReqN L at_ = .tup [.agg reqZ, .a (.int .i64 0), .a (.int .i64 5)] := by unfold decReqN; rw [if_neg (by simpa using he), if_pos (by omega)]
            rw [er]
            simp only [h32, h40, z8, go_sem]
            simp only [aresult, ares, go_sem]
            rfl
          · have ew1 : IntKind.i64.wrap ((rqU1 L at_).1 : Int) = ((rqU1 L at_).1 : Int) := by rw [IntKind.wrap_i64]; omega
            have ew2 : IntKind.i64.wrap ((rqU2 L at_).1 : Int) = ((rqU2 L at_).1 : Int) := by rw [IntKind.wrap_i64]; omega
            have hE : PDen Try.prog 35 [.agg [.int .i64 (rqU1 L at_).1, .int .i64 (rqU2 L at_).1, .str ⟨(rqP L at_).1.toArray⟩, .slice 3 ((rqV L at_).1.map Vl.row), .bool (rqD L at_).1, .bool false, .slice 1 ((rqR L at_).1.map sRow), .slice 1 ((rqW L at_).1.map sRow)]] (.a (.int .i64 (reqE (rqX L at_)))) := by
              exact reqE_den (rqX L at_) (rqX_fit L at_ hlen)
            simp only [h32, h40, ew1, ew2, go_sem]
            refine t_call_intro (hE) ?_
            simp only [go_sem]
            refine t_case_neI (fun hr => ?_) (fun hr => ?_)
            · have er : decReqN L at_ = .tup [.agg (rowN (rqX L at_)), .a (.int .i64 (rqW L at_).2.1), .a (.int .i64 0)] := by
                unfold decReqN; rw [if_neg (by simpa using he), if_neg (by omega), if_neg (by simpa using hr)]
              have eN : rowN (rqX L at_) = [.int .i64 (rqU1 L at_).1, .int .i64 (rqU2 L at_).1, .str ⟨(rqP L at_).1.toArray⟩, .slice 3 ((rqV L at_).1.map Vl.row), .bool (rqD L at_).1, .bool false, .slice 1 ((rqR L at_).1.map sRow), .slice 1 ((rqW L at_).1.map sRow)] := by
                unfold rowN
                rw [if_pos (show (rqX L at_).dc = true from hd), if_pos (show (rqX L at_).dc = true from hd)]
                rfl
              rw [er, eN]
              simp only [go_sem]
              refine t_two_intro ?_ ?_
              · simp only [z8, go_sem]
                simp only [aresult, ares, go_sem]
              · simp only [z8, go_sem]
                simp only [aresult, ares, go_sem]
            · have er : decReqN L at_ = .tup [.agg reqZ, .a (.int .i64 0), .a (.int .i64 5)] := by
                unfold decReqN; rw [if_neg (by simpa using he), if_neg (by omega), if_pos hr]
              rw [er]
              simp only [z8, go_sem]
              simp only [aresult, ares, go_sem]
              rfl
      · have er : decReqN L at_ = .tup [.agg reqZ, .a (.int .i64 0), .a (.int .i64 (rqW L at_).2.2)] := if_pos he
        rw [er]
        simp only [go_sem]
        refine t_two_intro ?_ ?_
        · simp only [z8, go_sem]
          simp only [aresult, ares, go_sem]
          rfl
        · simp only [z8, go_sem]
          simp only [aresult, ares, go_sem]
          rfl
    · have hd0 : ¬ (rqD L at_).1 = true := by rw [hd]; simp
      have eR : rqR L at_ = ([], (rqD L at_).2.1, (rqD L at_).2.2) := by unfold rqR rdFt; rw [if_neg hd0]
      have eW : rqW L at_ = ([], (rqR L at_).2.1, (rqR L at_).2.2) := by unfold rqW rdFt; rw [if_neg hd0]
      have eW2 : (rqD L at_).2.2 = (rqW L at_).2.2 := by rw [eW, eR]
      have eW1 : (rqD L at_).2.1 = (rqW L at_).2.1 := by rw [eW, eR]
      rw [eW1, eW2]
      simp only [xc, rdr, go_sem]
      refine t_case_neI (fun he => ?_) (fun he => ?_)
      · by_cases h32 : (32 : Int) < ((rqU1 L at_).1 : Int)
        · have er : decReqN L at_ = .tup [.agg reqZ, .a (.int .i64 0), .a (.int .i64 5)] := by unfold decReqN; rw [if_neg (by simpa using he), if_pos (by omega)]
          rw [er]
          simp only [h32, z8, go_sem]
          simp only [aresult, ares, go_sem]
          rfl
        · by_cases h40 : (1099511627776 : Int) < ((rqU2 L at_).1 : Int)
          · have er : decReqN L at_ = .tup [.agg reqZ, .a (.int .i64 0), .a (.int .i64 5)] := by unfold decReqN; rw [if_neg (by simpa using he), if_pos (by omega)]
            rw [er]
            simp only [h32, h40, z8, go_sem]
            simp only [aresult, ares, go_sem]
            rfl
          · have ew1 : IntKind.i64.wrap ((rqU1 L at_).1 : Int) = ((rqU1 L at_).1 : Int) := by rw [IntKind.wrap_i64]; omega
            have ew2 : IntKind.i64.wrap ((rqU2 L at_).1 : Int) = ((rqU2 L at_).1 : Int) := by rw [IntKind.wrap_i64]; omega
            have hE : PDen Try.prog 35 [.agg [.int .i64 (rqU1 L at_).1, .int .i64 (rqU2 L at_).1, .str ⟨(rqP L at_).1.toArray⟩, .slice 3 ((rqV L at_).1.map Vl.row), .bool (rqD L at_).1, .bool false, .nils, .nils]] (.a (.int .i64 (reqE (rqX L at_)))) := by
              have h := reqE_den (rqX L at_) (rqX_fit L at_ hlen)
              refine h.args ⟨VLe.agg ?_, trivial⟩
              have e1 : (rqX L at_).rd = [] := congrArg Prod.fst eR
              have e2 : (rqX L at_).wt = [] := congrArg Prod.fst eW
              unfold Req.row
              rw [e1, e2]
              exact ⟨RLe.refl _, RLe.refl _, RLe.refl _, RLe.refl _, RLe.refl _, RLe.refl _, RLe.nils 1, RLe.nils 1, trivial⟩
            simp only [h32, h40, ew1, ew2, go_sem]
            refine t_call_intro (hE) ?_
            simp only [go_sem]
            refine t_case_neI (fun hr => ?_) (fun hr => ?_)
            · have er : decReqN L at_ = .tup [.agg (rowN (rqX L at_)), .a (.int .i64 (rqW L at_).2.1), .a (.int .i64 0)] := by
                unfold decReqN; rw [if_neg (by simpa using he), if_neg (by omega), if_neg (by simpa using hr)]
              have eN : rowN (rqX L at_) = [.int .i64 (rqU1 L at_).1, .int .i64 (rqU2 L at_).1, .str ⟨(rqP L at_).1.toArray⟩, .slice 3 ((rqV L at_).1.map Vl.row), .bool (rqD L at_).1, .bool false, .nils, .nils] := by
                unfold rowN
                rw [if_neg (show ¬ (rqX L at_).dc = true from hd0), if_neg (show ¬ (rqX L at_).dc = true from hd0)]
                rfl
              rw [er, eN]
              simp only [go_sem]
              refine t_two_intro ?_ ?_
              · simp only [z8, go_sem]
                simp only [aresult, ares, go_sem]
              · simp only [z8, go_sem]
                simp only [aresult, ares, go_sem]
            · have er : decReqN L at_ = .tup [.agg reqZ, .a (.int .i64 0), .a (.int .i64 5)] := by
                unfold decReqN; rw [if_neg (by simpa using he), if_neg (by omega), if_pos hr]
              rw [er]
              simp only [z8, go_sem]
              simp only [aresult, ares, go_sem]
              rfl
      · have er : decReqN L at_ = .tup [.agg reqZ, .a (.int .i64 0), .a (.int .i64 (rqW L at_).2.2)] := if_pos he
        rw [er]
        simp only [go_sem]
        refine t_two_intro ?_ ?_
        · simp only [z8, go_sem]
          simp only [aresult, ares, go_sem]
          rfl
        · simp only [z8, go_sem]
          simp only [aresult, ares, go_sem]
          rfl
theorem req0_le : RLs reqZ req0.row := ⟨RLe.refl _, RLe.refl _, RLe.refl _, RLe.nils 3, RLe.refl _, RLe.refl _, RLe.nils 1, RLe.nils 1, trivial⟩
theorem rowN_le (r : Req) (h : r.dc = false → r.rd = [] ∧ r.wt = []) : RLs (rowN r) r.row := by
  unfold rowN
  split
  · exact RLs.refl _
  · rename_i hd
    obtain ⟨h1, h2⟩ := h (by simpa using hd)
    unfold Req.row
    rw [h1, h2]
    exact ⟨RLe.refl _, RLe.refl _, RLe.refl _, RLe.refl _, RLe.refl _, RLe.refl _, RLe.nils 1, RLe.nils 1, trivial⟩
theorem tup3_le {xs ys : List Atom} {a b : Atom} (h : RLs xs ys) : VLe (.tup [.agg xs, .a a, .a b]) (.tup [.agg ys, .a a, .a b]) := VLe.tup ⟨VLe.agg h, VLe.refl _, VLe.refl _, trivial⟩
theorem rqX_un (l : List UInt8) (a : Int) (hd : (rqX l a).dc = false) : (rqX l a).rd = [] ∧ (rqX l a).wt = [] := by
  have hd0 : ¬ (rqD l a).1 = true := by show ¬ (rqX l a).dc = true; rw [hd]; simp
  have e1 : rqR l a = ([], (rqD l a).2.1, (rqD l a).2.2) := by unfold rqR rdFt; rw [if_neg hd0]
  have e2 : rqW l a = ([], (rqR l a).2.1, (rqR l a).2.2) := by unfold rqW rdFt; rw [if_neg hd0]
  exact ⟨congrArg Prod.fst e1, congrArg Prod.fst e2⟩
theorem decReqN_le (l : List UInt8) (a : Int) : VLe (decReqN l a) (decReqV (decReq l a)) := by
  unfold decReqN decReqV decReq
  split
  · exact tup3_le req0_le
  · split
    · exact tup3_le req0_le
    · split
      · exact tup3_le req0_le
      · exact tup3_le (rowN_le _ (rqX_un l a))
theorem decReq_den (s : ByteArray) (at_ : Int) (hs0 : s.size ≤ 1073741824) : PDen Try.prog 78 [.a (.str s), .a (.int .i64 at_)] (decReqV (decReq s.data.toList at_)) := (decReq_N s at_ hs0).le (decReqN_le _ _)
end Go.Proofs.Ytpnihinmlmoogaa

/- Requests: equality, small requests; contracts of the abstract layer. -/
namespace Go.Proofs.Ytpnihinmlmoogaa
open Go Ab Go.RowKit
attribute [local irreducible] awp aops aop asoft aeff aloop acall acallI acallT
attribute [local go_sem] Vl.row sRow fpRow Req.row

def vlEqq (a b : Vl) : Bool := (a.kind == b.kind) && ((a.n == b.n) && ((a.s.toList == b.s.toList) && true))
theorem eqL_refl {α : Type} (f : α → α → Bool) (h : ∀ x, f x x = true) : ∀ l, eqL f l l = true
  | [] => rfl
  | x :: xs => by simp only [eqL]; rw [h x, eqL_refl f h xs]; rfl
theorem strEq_refl (a : ByteArray) : strEq a a = true := by simp [strEq]
theorem vlEqq_refl (a : Vl) : vlEqq a a = true := by simp [vlEqq]
theorem bs_eq {a b : ByteArray} (h : a.toList = b.toList) : a = b := ba_ext h
def reqEq (a b : Req) : Bool := (a.cl == b.cl) && (a.sq == b.sq) && (a.pr.toList == b.pr.toList) && eqL vlEqq a.args b.args && (a.dc == b.dc) && (a.al == b.al) && eqL strEq a.rd b.rd && eqL strEq a.wt b.wt
theorem reqEq_refl (a : Req) : reqEq a a = true := by
  simp [reqEq, eqL_refl _ vlEqq_refl, eqL_refl _ strEq_refl]
def reqsEq (a b : List Req) : Bool := eqL reqEq a b
theorem reqsEq_refl (a : List Req) : reqsEq a a = true := eqL_refl _ reqEq_refl a

set_option maxRecDepth 100000 in
set_option maxHeartbeats 1000000 in
theorem sequal_den (a b : List ByteArray) (ha : a.length ≤ 9223372036854775807) : PDen Try.prog 68 [.a (.slice 1 (a.map sRow)), .a (.slice 1 (b.map sRow))] (.a (.bool (eqL strEq a b))) := by
  by_cases hl : a.length = b.length
  · have q : ((a.length : Int) != (b.length : Int)) = false := by simp [hl]
    refine den_of_body k_slices_Equal_string_string ⟨rfl, Nat.le_of_ble_eq_true rfl, thaw_intro ?_⟩
    unfold c_slices_Equal_string_string
    simp only [q, go_sem]
    refine t_loop_intro (fun k : Nat => k ≤ a.length ∧ (eqL strEq a b = eqL strEq (a.drop k) (b.drop k))) (fun k => a.length - k) 0 [4, 5, 13, 14, 15, 16, 17, 18, 19, 20, 21, 22, 23, 24, 25] (fun k => [(13, .a (.int .i64 k))]) ⟨by omega, by rfl⟩ (by simp) (fun k => by simp) rfl ?_
    intro k hk0 fr_ hfr
    have hk : k ≤ a.length := hk0.1
    have hall := hk0.2
    clear hk0
    simp only [go_sem] at hfr
    subst hfr
    by_cases hlt : k < a.length
    · have h1 : (k : Int) < (a.length : Int) := by omega
      have h1' : (k : Int) < (b.length : Int) := by omega
      have hlt2 : k < b.length := by omega
      have e := getD_map sRow a k hlt
      have e2 := getD_map sRow b k hlt2
      have er : sRow a[k] = [.str a[k]] := rfl
      have er2 : sRow b[k] = [.str b[k]] := rfl
      have ew := wrap1 k a.length hlt (by omega)
      have es := eqL_step strEq a b k hlt hlt2
      cases hq : strEq a[k] b[k] with
      | true =>
        have hq' : (a[k].toList == b[k].toList) = true := hq
        simp only [h1, h1', e, er, e2, er2, hq', ew, go_sem]
        refine t_round (k + 1) ⟨by omega, by rw [hall, es, hq]; rfl⟩ (by omega) (by simp) rfl rfl (by simp) rfl
      | false =>
        have hq' : (a[k].toList == b[k].toList) = false := hq
        simp only [h1, h1', e, er, e2, er2, hq', go_sem]
        simp only [aresult, ares, go_sem]
        rw [hall, es, hq]; rfl
    · have h1 : ¬ (k : Int) < (a.length : Int) := by omega
      simp only [h1, go_sem]
      simp only [aresult, ares, go_sem]
      rw [hall, List.drop_eq_nil_of_le (by omega), List.drop_eq_nil_of_le (by omega)]; rfl
  · have q : ((a.length : Int) != (b.length : Int)) = true := by simp; omega
    rw [eqL_len strEq a b hl]
    refine den_of_body k_slices_Equal_string_string ⟨rfl, Nat.le_of_ble_eq_true rfl, thaw_intro ?_⟩
    unfold c_slices_Equal_string_string
    simp only [q, go_sem]
    simp only [aresult, ares, go_sem]
set_option maxRecDepth 100000 in
set_option maxHeartbeats 1000000 in
theorem vequal_den (a b : List Vl) (ha : a.length ≤ 9223372036854775807) : PDen Try.prog 67 [.a (.slice 3 (a.map Vl.row)), .a (.slice 3 (b.map Vl.row))] (.a (.bool (eqL vlEqq a b))) := by
  by_cases hl : a.length = b.length
  · have q : ((a.length : Int) != (b.length : Int)) = false := by simp [hl]
    refine den_of_body k_slices_Equal_api_Value_api_Value ⟨rfl, Nat.le_of_ble_eq_true rfl, thaw_intro ?_⟩
    unfold c_slices_Equal_api_Value_api_Value
    simp only [q, go_sem]
    refine t_loop_intro (fun k : Nat => k ≤ a.length ∧ (eqL vlEqq a b = eqL vlEqq (a.drop k) (b.drop k))) (fun k => a.length - k) 0 [4, 5, 13, 14, 15, 16, 17, 18, 19, 20, 21, 22, 23, 24, 25] (fun k => [(13, .a (.int .i64 k))]) ⟨by omega, by rfl⟩ (by simp) (fun k => by simp) rfl ?_
    intro k hk0 fr_ hfr
    have hk : k ≤ a.length := hk0.1
    have hall := hk0.2
    clear hk0
    simp only [go_sem] at hfr
    subst hfr
    by_cases hlt : k < a.length
    · have h1 : (k : Int) < (a.length : Int) := by omega
      have h1' : (k : Int) < (b.length : Int) := by omega
      have hlt2 : k < b.length := by omega
      have e := getD_map Vl.row a k hlt
      have e2 := getD_map Vl.row b k hlt2
      have er : a[k].row = [.int .i64 a[k].kind, .int .i64 a[k].n, .str a[k].s] := rfl
      have er2 : b[k].row = [.int .i64 b[k].kind, .int .i64 b[k].n, .str b[k].s] := rfl
      have ew := wrap1 k a.length hlt (by omega)
      have es := eqL_step vlEqq a b k hlt hlt2
      cases hq : vlEqq a[k] b[k] with
      | true =>
        have hq' : ((a[k].kind == b[k].kind) && ((a[k].n == b[k].n) && ((a[k].s.toList == b[k].s.toList) && true))) = true := hq
        simp only [h1, h1', e, er, e2, er2, hq', ew, go_sem]
        refine t_round (k + 1) ⟨by omega, by rw [hall, es, hq]; rfl⟩ (by omega) (by simp) rfl rfl (by simp) rfl
      | false =>
        have hq' : ((a[k].kind == b[k].kind) && ((a[k].n == b[k].n) && ((a[k].s.toList == b[k].s.toList) && true))) = false := hq
        simp only [h1, h1', e, er, e2, er2, hq', go_sem]
        simp only [aresult, ares, go_sem]
        rw [hall, es, hq]; rfl
    · have h1 : ¬ (k : Int) < (a.length : Int) := by omega
      simp only [h1, go_sem]
      simp only [aresult, ares, go_sem]
      rw [hall, List.drop_eq_nil_of_le (by omega), List.drop_eq_nil_of_le (by omega)]; rfl
  · have q : ((a.length : Int) != (b.length : Int)) = true := by simp; omega
    rw [eqL_len vlEqq a b hl]
    refine den_of_body k_slices_Equal_api_Value_api_Value ⟨rfl, Nat.le_of_ble_eq_true rfl, thaw_intro ?_⟩
    unfold c_slices_Equal_api_Value_api_Value
    simp only [q, go_sem]
    simp only [aresult, ares, go_sem]
structure Req.fits (r : Req) : Prop where
  args : r.args.length ≤ 9223372036854775807
  rd : r.rd.length ≤ 9223372036854775807
  wt : r.wt.length ≤ 9223372036854775807
theorem Req.fit.fits {r : Req} (h : r.fit) : r.fits := ⟨by have := h.len; omega, by have := h.rd.1; omega, by have := h.wt.1; omega⟩

set_option maxRecDepth 100000 in
set_option maxHeartbeats 4000000 in
theorem same_den (a b : Req) (ha : a.fits) : PDen Try.prog 42 [.agg a.row, .agg b.row] (.a (.bool (reqEq a b))) := by
  obtain ⟨ha1, ha2, ha3⟩ := ha
  obtain ⟨cl, sq, pr, args, dc, al, rd, wt⟩ := a
  obtain ⟨cl', sq', pr', args', dc', al', rd', wt'⟩ := b
  simp only at ha1 ha2 ha3
  have hA := vequal_den args args' ha1
  have hR := sequal_den rd rd' ha2
  have hW := sequal_den wt wt' ha3
  refine den_of_body k_batch_Same ⟨rfl, Nat.le_of_ble_eq_true rfl, thaw_intro ?_⟩
  unfold c_batch_Same
  simp only [go_sem]
  cases q1 : (cl == cl')
  · simp only [go_sem]
    simp only [aresult, ares, go_sem]
    simp [reqEq, q1]
  simp only [go_sem]
  cases q2 : (sq == sq')
  · simp only [go_sem]
    simp only [aresult, ares, go_sem]
    simp [reqEq, q2]
  simp only [go_sem]
  cases q3 : (pr.toList == pr'.toList)
  · simp only [go_sem]
    simp only [aresult, ares, go_sem]
    simp [reqEq, q3]
  simp only [go_sem]
  refine t_call_intro (hA) ?_
  cases q4 : eqL vlEqq args args'
  · simp only [go_sem]
    simp only [aresult, ares, go_sem]
    simp [reqEq, q4]
  simp only [go_sem]
  cases q5 : (dc == dc')
  · simp only [go_sem]
    simp only [aresult, ares, go_sem]
    simp [reqEq, q5]
  simp only [go_sem]
  cases q6 : (al == al')
  · simp only [go_sem]
    simp only [aresult, ares, go_sem]
    simp [reqEq, q6]
  simp only [go_sem]
  refine t_call_intro (hR) ?_
  cases q7 : eqL strEq rd rd'
  · simp only [go_sem]
    simp only [aresult, ares, go_sem]
    simp [reqEq, q7]
  simp only [go_sem]
  refine t_call_intro (hW) ?_
  cases q8 : eqL strEq wt wt'
  · simp only [go_sem]
    simp only [aresult, ares, go_sem]
    simp [reqEq, q8]
  simp only [go_sem]
  simp only [aresult, ares, go_sem]
  simp only [reqEq, q1, q2, q3, q4, q5, q6, q7, q8, Bool.and_self]

def fpEq (al al' : Bool) (rd rd' wt wt' : List ByteArray) : Bool := (al == al') && (eqL strEq rd rd' && eqL strEq wt wt')
set_option maxRecDepth 100000 in
set_option maxHeartbeats 4000000 in
theorem rfpsame_den (al al' : Bool) (rd rd' wt wt' : List ByteArray) (hr : rd.length ≤ 9223372036854775807) (hw : wt.length ≤ 9223372036854775807) : PDen Try.prog 91 [.agg (fpRow al rd wt), .agg (fpRow al' rd' wt')] (.a (.bool (fpEq al al' rd rd' wt wt'))) := by
  have hR := rksame_den rd rd' hr
  have hW := rksame_den wt wt' hw
  refine den_of_body k_ref19_Same ⟨rfl, Nat.le_of_ble_eq_true rfl, thaw_intro ?_⟩
  unfold c_ref19_Same
  simp only [go_sem]
  cases q1 : (al == al')
  · simp only [go_sem]
    simp only [aresult, ares, go_sem]
    simp [fpEq, q1]
  simp only [go_sem]
  refine t_call_intro (hR) ?_
  cases q2 : eqL strEq rd rd'
  · simp only [go_sem]
    simp only [aresult, ares, go_sem]
    simp [fpEq, q1, q2]
  simp only [go_sem]
  refine t_call_intro (hW) ?_
  simp only [go_sem]
  simp only [aresult, ares, go_sem]
  simp [fpEq, q1, q2]

set_option maxRecDepth 100000 in
set_option maxHeartbeats 4000000 in
theorem rsame_den (a b : Req) (ha : a.fits) : PDen Try.prog 69 [.agg a.row, .agg b.row] (.a (.bool (reqEq a b))) := by
  obtain ⟨ha1, ha2, ha3⟩ := ha
  obtain ⟨cl, sq, pr, args, dc, al, rd, wt⟩ := a
  obtain ⟨cl', sq', pr', args', dc', al', rd', wt'⟩ := b
  simp only at ha1 ha2 ha3
  have hF := rfpsame_den al al' rd rd' wt wt' ha2 ha3
  have nb : ∀ {α : Type} [BEq α] (x y : α), (x != y) = !(x == y) := fun _ _ => rfl
  refine den_of_body k_ref36_Same ⟨rfl, Nat.le_of_ble_eq_true rfl, thaw_intro ?_⟩
  unfold c_ref36_Same
  simp only [nb, go_sem]
  cases q1 : (cl == cl')
  · simp only [go_sem]
    simp only [aresult, ares, go_sem]
    simp [reqEq, q1]
  simp only [nb, go_sem]
  cases q2 : (sq == sq')
  · simp only [go_sem]
    simp only [aresult, ares, go_sem]
    simp [reqEq, q2]
  simp only [nb, go_sem]
  cases q3 : (pr.toList == pr'.toList)
  · simp only [go_sem]
    simp only [aresult, ares, go_sem]
    simp [reqEq, q3]
  simp only [nb, go_sem]
  cases q4 : (dc == dc')
  · simp only [go_sem]
    simp only [aresult, ares, go_sem]
    simp [reqEq, q4]
  simp only [nb, go_sem]
  by_cases hl : args.length = args'.length
  rotate_left
  · have q : ((args.length : Int) == (args'.length : Int)) = false := by simp; omega
    simp only [nb, q, go_sem]
    simp only [aresult, ares, go_sem]
    simp [reqEq, eqL_len vlEqq args args' hl]
  have q : ((args.length : Int) == (args'.length : Int)) = true := by simp [hl]
  simp only [nb, q, go_sem]
  refine t_call_intro (hF) ?_
  cases q5 : fpEq al al' rd rd' wt wt'
  · simp only [go_sem]
    simp only [aresult, ares, go_sem]
    unfold fpEq at q5
    simp only [reqEq]
    cases h1 : (al == al') <;> cases h2 : eqL strEq rd rd' <;> cases h3 : eqL strEq wt wt' <;> simp [h1, h2, h3] at q5 ⊢
  have hG : reqEq ⟨cl, sq, pr, args, dc, al, rd, wt⟩ ⟨cl', sq', pr', args', dc', al', rd', wt'⟩ = eqL vlEqq args args' := by
    unfold fpEq at q5
    simp only [Bool.and_eq_true] at q5
    simp only [reqEq, q1, q2, q3, q4, q5.1, q5.2.1, q5.2.2, Bool.and_true, Bool.true_and]
  rw [hG]
  simp only [go_sem]
  refine t_loop_intro (fun k : Nat => k ≤ args.length ∧ (eqL vlEqq args args' = eqL vlEqq (args.drop k) (args'.drop k))) (fun k => args.length - k) 0 [4, 5, 49, 50, 51, 52, 53, 54, 55, 56, 57, 58, 59, 60, 61, 62, 63, 64, 65, 66] (fun k => [(5, .a (.int .i64 k))]) ⟨by omega, by rfl⟩ (by simp) (fun k => by simp) rfl ?_
  intro k hk0 fr_ hfr
  have hk : k ≤ args.length := hk0.1
  have hall := hk0.2
  clear hk0
  simp only [go_sem] at hfr
  subst hfr
  by_cases hlt : k < args.length
  · have h1 : (k : Int) < (args.length : Int) := by omega
    have h1' : (k : Int) < (args'.length : Int) := by omega
    have hlt2 : k < args'.length := by omega
    have e := getD_map Vl.row args k hlt
    have e2 := getD_map Vl.row args' k hlt2
    have er : args[k].row = [.int .i64 args[k].kind, .int .i64 args[k].n, .str args[k].s] := rfl
    have er2 : args'[k].row = [.int .i64 args'[k].kind, .int .i64 args'[k].n, .str args'[k].s] := rfl
    have ew := wrap1 k args.length hlt (by omega)
    have es := eqL_step vlEqq args args' k hlt hlt2
    cases hq : vlEqq args[k] args'[k] with
    | true =>
      have hq' : ((args[k].kind == args'[k].kind) && ((args[k].n == args'[k].n) && ((args[k].s.toList == args'[k].s.toList) && true))) = true := hq
      simp only [h1, h1', e, er, e2, er2, hq', ew, go_sem]
      refine t_round (k + 1) ⟨by omega, by rw [hall, es, hq]; rfl⟩ (by omega) (by simp) rfl rfl (by simp) rfl
    | false =>
      have hq' : ((args[k].kind == args'[k].kind) && ((args[k].n == args'[k].n) && ((args[k].s.toList == args'[k].s.toList) && true))) = false := hq
      simp only [h1, h1', e, er, e2, er2, hq', go_sem]
      simp only [aresult, ares, go_sem]
      rw [hall, es, hq]; rfl
  · have h1 : ¬ (k : Int) < (args.length : Int) := by omega
    simp only [h1, go_sem]
    simp only [aresult, ares, go_sem]
    rw [hall, List.drop_eq_nil_of_le (by omega), List.drop_eq_nil_of_le (by omega)]; rfl

/-! Small requests -/
def sh (m : Nat) (s : ByteArray) : Bool := decide (s.size ≤ m)
def fewFp (m : Nat) (rd wt : List ByteArray) : Bool := decide (rd.length ≤ m) && (decide (wt.length ≤ m) && (rd.all (sh 100) && wt.all (sh 100)))
theorem all_dstep {α : Type} (f : α → Bool) (l : List α) (k : Nat) (h : k < l.length) : (l.drop k).all f = (f l[k] && (l.drop (k + 1)).all f) := by
  rw [List.drop_eq_getElem_cons h, List.all_cons]
set_option maxRecDepth 100000 in
set_option maxHeartbeats 4000000 in
theorem rfewfp_den (al : Bool) (rd wt : List ByteArray) (m : Nat) (hm : m ≤ 1000) : PDen Try.prog 57 [.agg (fpRow al rd wt), .a (.int .i64 m)] (.a (.bool (fewFp m rd wt))) := by
  by_cases c1 : rd.length ≤ m
  rotate_left
  · have q1 : (m : Int) < (rd.length : Int) := by omega
    refine den_of_body k_ref19_Few ⟨rfl, Nat.le_of_ble_eq_true rfl, thaw_intro ?_⟩
    unfold c_ref19_Few
    simp only [q1, go_sem]
    simp only [aresult, ares, go_sem]
    simp [fewFp, c1]
  have q1 : ¬ (m : Int) < (rd.length : Int) := by omega
  by_cases c2 : wt.length ≤ m
  rotate_left
  · have q2 : (m : Int) < (wt.length : Int) := by omega
    refine den_of_body k_ref19_Few ⟨rfl, Nat.le_of_ble_eq_true rfl, thaw_intro ?_⟩
    unfold c_ref19_Few
    simp only [q1, q2, go_sem]
    simp only [aresult, ares, go_sem]
    simp [fewFp, c2]
  have q2 : ¬ (m : Int) < (wt.length : Int) := by omega
  have hG : fewFp m rd wt = (rd.all (sh 100) && wt.all (sh 100)) := by simp [fewFp, c1, c2]
  rw [hG]
  refine den_of_body k_ref19_Few ⟨rfl, Nat.le_of_ble_eq_true rfl, thaw_intro ?_⟩
  unfold c_ref19_Few
  simp only [q1, q2, go_sem]
  refine t_loop_intro (fun k : Nat => k ≤ rd.length ∧ (rd.all (sh 100) = (rd.drop k).all (sh 100))) (fun k => rd.length - k) 0 [4, 5, 19, 20, 21, 22, 23, 24, 25, 26, 27, 28, 29, 30, 31, 32] (fun k => [(5, .a (.int .i64 k))]) ⟨by omega, by rfl⟩ (by simp) (fun k => by simp) rfl ?_
  intro k hk0 fr_ hfr
  have hk : k ≤ rd.length := hk0.1
  have hall := hk0.2
  clear hk0
  simp only [go_sem] at hfr
  subst hfr
  by_cases hlt : k < rd.length
  · have h1 : (k : Int) < (rd.length : Int) := by omega
    have e := getD_map sRow rd k hlt
    have er : sRow rd[k] = [.str rd[k]] := rfl
    have ew := wrap1 k rd.length hlt (by omega)
    have es := all_dstep (sh 100) rd k hlt
    by_cases c3 : rd[k].size ≤ 100
    · have q3 : ¬ (100 : Int) < (rd[k].size : Int) := by omega
      simp only [h1, e, er, q3, ew, go_sem]
      refine t_round (k + 1) ⟨by omega, by rw [hall, es]; simp [sh, c3]⟩ (by omega) (by simp) rfl rfl (by simp) rfl
    · have q3 : (100 : Int) < (rd[k].size : Int) := by omega
      simp only [h1, e, er, q3, go_sem]
      simp only [aresult, ares, go_sem]
      rw [hall, es]; simp [sh, c3]
  · have h1 : ¬ (k : Int) < (rd.length : Int) := by omega
    have ha : rd.all (sh 100) = true := by rw [hall, List.drop_eq_nil_of_le (by omega)]; rfl
    rw [ha, Bool.true_and]
    simp only [h1, go_sem]
    refine t_loop_intro (fun j : Nat => j ≤ wt.length ∧ (wt.all (sh 100) = (wt.drop j).all (sh 100))) (fun j => wt.length - j) 0 [4, 6, 33, 34, 35, 36, 37, 38, 39, 40, 41, 42, 43, 44, 45, 46] (fun j => [(6, .a (.int .i64 j))]) ⟨by omega, by rfl⟩ (by simp) (fun j => by simp) rfl ?_
    intro j hk0j fr_ hfr
    have hkj : j ≤ wt.length := hk0j.1
    have hallj := hk0j.2
    clear hk0j
    simp only [go_sem] at hfr
    subst hfr
    by_cases hltj : j < wt.length
    · have h2 : (j : Int) < (wt.length : Int) := by omega
      have e := getD_map sRow wt j hltj
      have er : sRow wt[j] = [.str wt[j]] := rfl
      have ew := wrap1 j wt.length hltj (by omega)
      have es := all_dstep (sh 100) wt j hltj
      by_cases c3 : wt[j].size ≤ 100
      · have q3 : ¬ (100 : Int) < (wt[j].size : Int) := by omega
        simp only [h2, e, er, q3, ew, go_sem]
        refine t_round (j + 1) ⟨by omega, by rw [hallj, es]; simp [sh, c3]⟩ (by omega) (by simp) rfl rfl (by simp) rfl
      · have q3 : (100 : Int) < (wt[j].size : Int) := by omega
        simp only [h2, e, er, q3, go_sem]
        simp only [aresult, ares, go_sem]
        rw [hallj, es]; simp [sh, c3]
    · have h2 : ¬ (j : Int) < (wt.length : Int) := by omega
      simp only [h2, go_sem]
      simp only [aresult, ares, go_sem]
      rw [hallj, List.drop_eq_nil_of_le (by omega)]; rfl
def fewR (r : Req) : Bool := decide (r.pr.size ≤ 300) && (decide (r.args.length ≤ 40) && (fewFp 100 r.rd r.wt && r.args.all (fun v => sh 300 v.s)))
set_option maxRecDepth 100000 in
set_option maxHeartbeats 4000000 in
theorem rfew_den (r : Req) : PDen Try.prog 33 [.agg r.row] (.a (.bool (fewR r))) := by
  obtain ⟨cl, sq, pr, args, dc, al, rd, wt⟩ := r
  have hF := rfewfp_den al rd wt 100 (by omega)
  by_cases c1 : pr.size ≤ 300
  rotate_left
  · have q1 : (300 : Int) < (pr.size : Int) := by omega
    refine den_of_body k_ref36_Few ⟨rfl, Nat.le_of_ble_eq_true rfl, thaw_intro ?_⟩
    unfold c_ref36_Few
    simp only [q1, go_sem]
    simp only [aresult, ares, go_sem]
    simp [fewR, c1]
  have q1 : ¬ (300 : Int) < (pr.size : Int) := by omega
  by_cases c2 : args.length ≤ 40
  rotate_left
  · have q2 : (40 : Int) < (args.length : Int) := by omega
    refine den_of_body k_ref36_Few ⟨rfl, Nat.le_of_ble_eq_true rfl, thaw_intro ?_⟩
    unfold c_ref36_Few
    simp only [q1, q2, go_sem]
    simp only [aresult, ares, go_sem]
    simp [fewR, c2]
  have q2 : ¬ (40 : Int) < (args.length : Int) := by omega
  have i100 : (((100 : Nat) : Int)) = 100 := rfl
  rw [i100] at hF
  refine den_of_body k_ref36_Few ⟨rfl, Nat.le_of_ble_eq_true rfl, thaw_intro ?_⟩
  unfold c_ref36_Few
  simp only [q1, q2, go_sem]
  refine t_call_intro (hF) ?_
  cases q3 : fewFp 100 rd wt
  · simp only [go_sem]
    simp only [aresult, ares, go_sem]
    simp [fewR, q3]
  have hG : fewR ⟨cl, sq, pr, args, dc, al, rd, wt⟩ = args.all (fun v => sh 300 v.s) := by simp [fewR, c1, c2, q3]
  rw [hG]
  simp only [go_sem]
  refine t_loop_intro (fun k : Nat => k ≤ args.length ∧ (args.all (fun v => sh 300 v.s) = (args.drop k).all (fun v => sh 300 v.s))) (fun k => args.length - k) 0 [2, 3, 20, 21, 22, 23, 24, 25, 26, 27, 28, 29, 30, 31, 32, 33, 34] (fun k => [(3, .a (.int .i64 k))]) ⟨by omega, by rfl⟩ (by simp) (fun k => by simp) rfl ?_
  intro k hk0 fr_ hfr
  have hk : k ≤ args.length := hk0.1
  have hall := hk0.2
  clear hk0
  simp only [go_sem] at hfr
  subst hfr
  by_cases hlt : k < args.length
  · have h1 : (k : Int) < (args.length : Int) := by omega
    have e := getD_map Vl.row args k hlt
    have er : args[k].row = [.int .i64 args[k].kind, .int .i64 args[k].n, .str args[k].s] := rfl
    have ew := wrap1 k args.length hlt (by omega)
    have es := all_dstep (fun v : Vl => sh 300 v.s) args k hlt
    by_cases c3 : args[k].s.size ≤ 300
    · have q3 : ¬ (300 : Int) < (args[k].s.size : Int) := by omega
      simp only [h1, e, er, q3, ew, go_sem]
      refine t_round (k + 1) ⟨by omega, by rw [hall, es]; simp [sh, c3]⟩ (by omega) (by simp) rfl rfl (by simp) rfl
    · have q3 : (300 : Int) < (args[k].s.size : Int) := by omega
      simp only [h1, e, er, q3, go_sem]
      simp only [aresult, ares, go_sem]
      rw [hall, es]; simp [sh, c3]
  · have h1 : ¬ (k : Int) < (args.length : Int) := by omega
    simp only [h1, go_sem]
    simp only [aresult, ares, go_sem]
    rw [hall, List.drop_eq_nil_of_le (by omega)]; rfl
theorem sh_le {m : Nat} {s : ByteArray} (h : sh m s = true) : s.size ≤ m := of_decide_eq_true h
end Go.Proofs.Ytpnihinmlmoogaa

/- Copies of requests; lists that are merged, cut. -/
namespace Go.Proofs.Ytpnihinmlmoogaa
open Go Ab Go.RowKit
attribute [local irreducible] awp aops aop asoft aeff aloop acall acallI acallT
attribute [local go_sem] Vl.row sRow

/-- No longer than what can be in memory. -/
structure Req.bulk (r : Req) : Prop where
  args : r.args.length * 32 ≤ 140737488351232
  rd : r.rd.length * 16 ≤ 140737488351232
  wt : r.wt.length * 16 ≤ 140737488351232
theorem rowr (r : Req) : r.row = [.int .i64 r.cl, .int .i64 r.sq, .str r.pr, .slice 3 (r.args.map Vl.row), .bool r.dc, .bool r.al, .slice 1 (r.rd.map sRow), .slice 1 (r.wt.map sRow)] := rfl
def lsRow (l : List Req) : List Atom := [.slice 8 (l.map Req.row)]
/-- What one round takes of the first k inputs. -/
def mrow (ls : List (List Req)) (i k : Nat) : List Req := (ls.take k).filterMap (fun l => l[i]?)
def mcol (ls : List (List Req)) : Nat → List Req
  | 0 => []
  | i + 1 => mcol ls i ++ mrow ls i ls.length
def most (ls : List (List Req)) : Nat → Nat
  | 0 => 0
  | k + 1 => max (most ls k) (ls.getD k []).length
def mergeR (ls : List (List Req)) : List Req := mcol ls (most ls ls.length)
theorem mrow_zero (ls : List (List Req)) (i : Nat) : mrow ls i 0 = [] := rfl
theorem mrow_some (ls : List (List Req)) (i k : Nat) (hk : k < ls.length) (hi : i < ls[k].length) : mrow ls i (k + 1) = mrow ls i k ++ [ls[k][i]] := by
  unfold mrow
  rw [List.take_succ_eq_append_getElem hk, List.filterMap_append]
  simp [List.getElem?_eq_getElem hi]
theorem mrow_none (ls : List (List Req)) (i k : Nat) (hk : k < ls.length) (hi : ¬ i < ls[k].length) : mrow ls i (k + 1) = mrow ls i k := by
  unfold mrow
  rw [List.take_succ_eq_append_getElem hk, List.filterMap_append]
  simp [List.getElem?_eq_none (Nat.le_of_not_lt hi)]
theorem mrow_len (ls : List (List Req)) (i k : Nat) : (mrow ls i k).length ≤ k := Nat.le_trans (List.length_filterMap_le _ _) (List.length_take_le _ _)
theorem mcol_len (ls : List (List Req)) : ∀ i, (mcol ls i).length ≤ i * ls.length
  | 0 => Nat.zero_le _
  | i + 1 => by
    have h1 := mcol_len ls i
    have h2 := mrow_len ls i ls.length
    simp only [mcol, List.length_append]
    rw [Nat.succ_mul]; omega
theorem most_le (ls : List (List Req)) (m : Nat) (h : ∀ l ∈ ls, l.length ≤ m) : ∀ k, most ls k ≤ m
  | 0 => Nat.zero_le _
  | k + 1 => by
    have h1 := most_le ls m h k
    simp only [most]
    have : (ls.getD k []).length ≤ m := by
      rw [List.getD_eq_getElem?_getD]
      cases hk : ls[k]? with
      | none => exact Nat.zero_le _
      | some l => exact h l (List.mem_of_getElem? hk)
    omega
theorem most_step (ls : List (List Req)) (k : Nat) (h : k < ls.length) : most ls (k + 1) = max (most ls k) ls[k].length := by
  simp [most, List.getD_eq_getElem?_getD, h]
theorem imax (a b : Nat) : (if (b : Int) > (a : Int) then (b : Int) else (a : Int)) = ((max a b : Nat) : Int) := by split <;> omega
theorem getD_ls (ls : List (List Req)) (k : Nat) (h : k < ls.length) : (ls.map lsRow).getD k [] = [.slice 8 (ls[k].map Req.row)] := getD_map lsRow ls k h
theorem gate120 (n m : Nat) (h : n ≤ m) (hm : m ≤ 1000000) : (n + 1 + (n + 1) / 4 + 192) * 120 ≤ 281474976710656 ∧ n ≤ 9223372036854775806 := by omega
/-! printed by mkbi.py -/
/-! Cut -/
def cutN (m : Int) (n : Nat) : Nat := (max 0 (min m n)).toNat
theorem cutN_le (m : Int) (n : Nat) : cutN m n ≤ n := by unfold cutN; omega
theorem cutN_a (m : Int) (n : Nat) : (if (if (n : Int) < m then (n : Int) else m) > 0 then (if (n : Int) < m then (n : Int) else m) else 0) = (cutN m n : Int) := by
  unfold cutN
  split <;> split <;> omega
theorem cutN_b (m : Int) (n : Nat) : (if (n : Int) < (if (0 : Int) > m then 0 else m) then (n : Int) else (if (0 : Int) > m then 0 else m)) = (cutN m n : Int) := by
  unfold cutN
  split <;> split <;> omega
theorem cutA_lt (l : List Req) (n k : Nat) (h : k < l.length) (hn : k < n) : (l.take n).take (k + 1) = (l.take n).take k ++ [l[k]] := by
  rw [List.take_take, List.take_take, show min (k + 1) n = k + 1 by omega, show min k n = k by omega, List.take_succ_eq_append_getElem h]
theorem cutA_ge (l : List Req) (n k : Nat) (hn : ¬ k < n) : (l.take n).take (k + 1) = (l.take n).take k := by
  rw [List.take_take, List.take_take, show min (k + 1) n = n by omega, show min k n = n by omega]
theorem cutB_lt (l : List Req) (n k : Nat) (hn : k < n) : (l.take (k + 1)).drop n = (l.take k).drop n := by
  rw [List.drop_eq_nil_of_le (by rw [List.length_take]; omega), List.drop_eq_nil_of_le (by rw [List.length_take]; omega)]
theorem cutB_ge (l : List Req) (n k : Nat) (h : k < l.length) (hn : ¬ k < n) : (l.take (k + 1)).drop n = (l.take k).drop n ++ [l[k]] := by
  rw [List.take_succ_eq_append_getElem h, List.drop_append_of_le_length (by rw [List.length_take]; omega)]
set_option maxRecDepth 100000 in
set_option maxHeartbeats 4000000 in
theorem rsamelist_den (a b : List Req) (ha : a.length ≤ 9223372036854775807) (hf : ∀ r ∈ a, r.fits) : PDen Try.prog 43 [.a (.slice 8 (a.map Req.row)), .a (.slice 8 (b.map Req.row))] (.a (.bool (reqsEq a b))) := by
  unfold reqsEq
  by_cases hl : a.length = b.length
  · have q : ((a.length : Int) != (b.length : Int)) = false := by simp [hl]
    refine den_of_body k_ref36_SameList ⟨rfl, Nat.le_of_ble_eq_true rfl, thaw_intro ?_⟩
    unfold c_ref36_SameList
    simp only [q, go_sem]
    refine t_loop_intro (fun k : Nat => k ≤ a.length ∧ (eqL reqEq a b = eqL reqEq (a.drop k) (b.drop k))) (fun k => a.length - k) 0 [4, 5, 11, 12, 13, 14, 15, 16, 17, 18, 19, 20, 21, 22, 23, 24, 25, 26] (fun k => [(5, .a (.int .i64 k))]) ⟨by omega, by rfl⟩ (by simp) (fun k => by simp) rfl ?_
    intro k hk0 fr_ hfr
    have hk : k ≤ a.length := hk0.1
    have hall := hk0.2
    clear hk0
    simp only [go_sem] at hfr
    subst hfr
    by_cases hlt : k < a.length
    · have h1 : (k : Int) < (a.length : Int) := by omega
      have h1' : (k : Int) < (b.length : Int) := by omega
      have hlt2 : k < b.length := by omega
      have e := getD_map Req.row a k hlt
      have e2 := getD_map Req.row b k hlt2
      have er := rowr a[k]
      have er2 := rowr b[k]
      have ew := wrap1 k a.length hlt (by omega)
      have es := eqL_step reqEq a b k hlt hlt2
      have hs := rsame_den a[k] b[k] (hf _ (List.getElem_mem hlt))
      rw [er, er2] at hs
      rw [er] at e
      rw [er2] at e2
      simp only [h1, h1', e, e2, go_sem]
      refine t_call_intro (hs) ?_
      cases hq : reqEq a[k] b[k] with
      | true =>
        simp only [ew, go_sem]
        refine t_round (k + 1) ⟨by omega, by rw [hall, es, hq]; rfl⟩ (by omega) (by simp) rfl rfl (by simp) rfl
      | false =>
        simp only [go_sem]
        simp only [aresult, ares, go_sem]
        rw [hall, es, hq]; rfl
    · have h1 : ¬ (k : Int) < (a.length : Int) := by omega
      simp only [h1, go_sem]
      simp only [aresult, ares, go_sem]
      rw [hall, List.drop_eq_nil_of_le (by omega), List.drop_eq_nil_of_le (by omega)]; rfl
  · have q : ((a.length : Int) != (b.length : Int)) = true := by simp; omega
    rw [eqL_len reqEq a b hl]
    refine den_of_body k_ref36_SameList ⟨rfl, Nat.le_of_ble_eq_true rfl, thaw_intro ?_⟩
    unfold c_ref36_SameList
    simp only [q, go_sem]
    simp only [aresult, ares, go_sem]
end Go.Proofs.Ytpnihinmlmoogaa

/- Lists of requests: bytes. -/
namespace Go.Proofs.Ytpnihinmlmoogaa
open Go Ab Go.RowKit
attribute [local irreducible] awp aops aop asoft aeff aloop acall acallI acallT
attribute [local go_sem] Vl.row sRow

theorem reqB_size (r : Req) (h : r.fit) : (reqB r).size ≤ 200000 := by
  by_cases he : reqE r = 0
  · have hr : reqB r = valsH (reqHead r) r.args r.args.length ++ boolBB r.dc ++ (if r.dc = true then keysB r.rd ++ keysB r.wt else ⟨#[]⟩) := if_pos he
    have ok := (reqE_ok r).1 he
    have c1 := ok.c1; have c2 := ok.c2; have s1 := ok.s1; have s2 := ok.s2; have ln := ok.ln; have ar := ok.ar
    have zn := nameV_size _ ok.nm
    have kr := asc_small _ ok.rd
    have kw := asc_small _ ok.wt
    have z1 := vintB_size r.cl.toNat (by rw [Cw.m64]; omega)
    have z2 := vintB_size r.sq.toNat (by rw [Cw.m64]; omega)
    have z3 := vintB_size r.args.length (m64_nat _ (by omega))
    have z4 := textB_size r.pr (by omega)
    have zk1 := keysH_size r.rd kr r.rd.length (Nat.le_refl _)
    have zk2 := keysH_size r.wt kw r.wt.length (Nat.le_refl _)
    have zl1 := kr.len
    have zl2 := kw.len
    have zb : (boolBB r.dc).size ≤ 1 := by cases r.dc <;> decide
    have zh : (reqHead r).size ≤ 60 := by unfold reqHead; simp only [ByteArray.size_append]; omega
    have zv := valsH_size (reqHead r) r.args (fun v hv => (ar v hv).1) h.ns r.args.length (Nat.le_refl _)
    have zt : (if r.dc = true then keysB r.rd ++ keysB r.wt else (⟨#[]⟩ : ByteArray)).size ≤ 140000 := by
      split
      · rw [ByteArray.size_append]; unfold keysB; omega
      · exact Nat.zero_le _
    rw [hr]
    simp only [ByteArray.size_append]
    omega
  · have hr : reqB r = ⟨#[]⟩ := if_neg he
    rw [hr]; exact Nat.zero_le _
def encH (l : List Req) (k : Nat) : ByteArray := (l.take k).foldl (fun acc r => acc ++ reqB r) (vintB l.length)
theorem encH_zero (l : List Req) : encH l 0 = vintB l.length := rfl
theorem encH_step (l : List Req) (k : Nat) (h : k < l.length) : encH l (k + 1) = encH l k ++ reqB l[k] := by
  unfold encH
  rw [List.take_succ_eq_append_getElem h, List.foldl_append]; rfl
theorem encH_size (l : List Req) (hl : l.length ≤ 64) (hf : ∀ r ∈ l, r.fit) : ∀ k, k ≤ l.length → (encH l k).size ≤ 10 + k * 200000
  | 0, _ => by rw [encH_zero]; have := vintB_size l.length (m64_nat _ (by omega)); omega
  | k + 1, h => by
    have ih := encH_size l hl hf k (by omega)
    have := reqB_size l[k] (hf _ (List.getElem_mem (by omega)))
    rw [encH_step l k (by omega), ByteArray.size_append]; omega
def encReqs (l : List Req) : ByteArray := if 64 < l.length then ⟨#[]⟩ else if ∀ r ∈ l, reqE r = 0 then encH l l.length else ⟨#[]⟩
theorem all_take (l : List Req) (k : Nat) (h : k < l.length) (ha : ∀ r ∈ l.take k, reqE r = 0) (hk : reqE l[k] = 0) : ∀ r ∈ l.take (k + 1), reqE r = 0 := by
  intro r hr
  rw [List.take_succ_eq_append_getElem h] at hr
  rcases List.mem_append.1 hr with hr | hr
  · exact ha r hr
  · rw [List.mem_singleton.1 hr]; exact hk
theorem not_all (l : List Req) (k : Nat) (h : k < l.length) (hk : reqE l[k] ≠ 0) (hl : l.length ≤ 64) : encReqs l = ⟨#[]⟩ := by
  unfold encReqs
  rw [if_neg (by omega), if_neg (fun ha => hk (ha _ (List.getElem_mem h)))]

set_option maxRecDepth 100000 in
set_option maxHeartbeats 4000000 in
theorem encReqs_den (l : List Req) (hl : l.length ≤ 9223372036854775807) (hf : ∀ r ∈ l, r.fit) : PDen Try.prog 24 [.a (.slice 8 (l.map Req.row))] (.a (.str (encReqs l))) := by
  by_cases h64 : 64 < l.length
  · have q : (64 : Int) < (l.length : Int) := by omega
    have er : encReqs l = ⟨#[]⟩ := if_pos h64
    rw [er]
    refine den_of_body k_batch_Encode ⟨rfl, Nat.le_of_ble_eq_true rfl, thaw_intro ?_⟩
    unfold c_batch_Encode
    simp only [q, go_sem]
    simp only [aresult, ares, go_sem]
  have q : ¬ (64 : Int) < (l.length : Int) := by omega
  have hu := wuint_den (l.length : Int) (by omega) (m64_nat _ hl)
  rw [Int.toNat_natCast, ← encH_zero] at hu
  have ewu := u64_nat l.length hl
  have zs := encH_size l (by omega) hf
  refine den_of_body k_batch_Encode ⟨rfl, Nat.le_of_ble_eq_true rfl, thaw_intro ?_⟩
  unfold c_batch_Encode
  simp only [q, ewu, go_sem]
  refine t_call_intro (hu) ?_
  simp only [go_sem]
  refine t_loop_intro (fun k : Nat => k ≤ l.length ∧ (∀ r ∈ l.take k, reqE r = 0)) (fun k => l.length - k) 0 [2, 3, 5, 15, 16, 17, 18, 19, 20, 21, 22, 23, 24, 25, 26] (fun k => [(3, .a (.str (encH l k))), (15, .a (.int .i64 k))]) ⟨by omega, by simp⟩ (by simp) (fun k => by simp) rfl ?_
  intro k hk0 fr_ hfr
  have hk : k ≤ l.length := hk0.1
  have hall := hk0.2
  clear hk0
  simp only [go_sem] at hfr
  subst hfr
  by_cases hlt : k < l.length
  · have h1 : (k : Int) < (l.length : Int) := by omega
    have e := getD_map Req.row l k hlt
    have er := rowr l[k]
    have ew := wrap1 k l.length hlt (by omega)
    have hm := hf _ (List.getElem_mem hlt)
    have hE := reqE_den l[k] hm
    have hB := reqB_den l[k] hm
    rw [er] at hE hB e
    have es := encH_step l k hlt
    have z1 := zs k hk
    have z2 := reqB_size l[k] hm
    simp only [h1, e, go_sem]
    refine t_call_intro (hE) ?_
    simp only [go_sem]
    by_cases he : reqE l[k] = 0
    · have n0 : (reqE l[k] != 0) = false := by simp [he]
      simp only [n0, h1, e, go_sem]
      refine t_call_intro (hB) ?_
      simp only [go_sem]
      refine t_gate_intro (by first | omega | (simp; omega)) ?_
      simp only [ew, go_sem]
      refine t_round (k + 1) ⟨by omega, all_take l k hlt hall he⟩ (by omega) (by first | (simp; done) | simp [es]) rfl rfl (by simp) rfl
    · have n0 : (reqE l[k] != 0) = true := by simp [he]
      rw [not_all l k hlt he (by omega)]
      simp only [n0, go_sem]
      simp only [aresult, ares, go_sem]
  · have h1 : ¬ (k : Int) < (l.length : Int) := by omega
    have hke : k = l.length := by omega
    subst hke
    have er : encReqs l = encH l l.length := by
      unfold encReqs
      rw [if_neg h64, if_pos (by intro r hr; exact hall r (by rw [List.take_length]; exact hr))]
    rw [er]
    simp only [h1, go_sem]
    simp only [aresult, ares, go_sem]

set_option maxRecDepth 100000 in
set_option maxHeartbeats 4000000 in
theorem rencReqs_den (l : List Req) (hl : l.length ≤ 9223372036854775807) (hf : ∀ r ∈ l, r.fit) : PDen Try.prog 44 [.a (.slice 8 (l.map Req.row))] (.a (.str (encReqs l))) := by
  by_cases h64 : 64 < l.length
  · have q : (64 : Int) < (l.length : Int) := by omega
    have er : encReqs l = ⟨#[]⟩ := if_pos h64
    rw [er]
    refine den_of_body k_ref36_Encode ⟨rfl, Nat.le_of_ble_eq_true rfl, thaw_intro ?_⟩
    unfold c_ref36_Encode
    simp only [q, go_sem]
    simp only [aresult, ares, go_sem]
  have q : ¬ (64 : Int) < (l.length : Int) := by omega
  have hu := ruint_den (l.length : Int) (by omega) (m64_nat _ hl)
  rw [Int.toNat_natCast, ← encH_zero] at hu
  have ewu := u64_nat l.length hl
  have zs := encH_size l (by omega) hf
  refine den_of_body k_ref36_Encode ⟨rfl, Nat.le_of_ble_eq_true rfl, thaw_intro ?_⟩
  unfold c_ref36_Encode
  simp only [q, ewu, go_sem]
  refine t_call_intro (hu) ?_
  simp only [go_sem]
  refine t_loop_intro (fun k : Nat => k ≤ l.length ∧ (∀ r ∈ l.take k, reqE r = 0)) (fun k => l.length - k) 0 [2, 3, 4, 12, 13, 14, 15, 16, 17, 18, 19, 20, 21, 22, 23, 24, 25, 26, 27, 28, 29, 30] (fun k => [(3, .a (.str (encH l k))), (4, .a (.int .i64 k))]) ⟨by omega, by simp⟩ (by simp) (fun k => by simp) rfl ?_
  intro k hk0 fr_ hfr
  have hk : k ≤ l.length := hk0.1
  have hall := hk0.2
  clear hk0
  simp only [go_sem] at hfr
  subst hfr
  by_cases hlt : k < l.length
  · have h1 : (k : Int) < (l.length : Int) := by omega
    have e := getD_map Req.row l k hlt
    have er := rowr l[k]
    have ew := wrap1 k l.length hlt (by omega)
    have hm := hf _ (List.getElem_mem hlt)
    have hE := rreqE_den l[k] hm
    have hB := rreqB_den l[k] hm
    rw [er] at hE hB e
    have es := encH_step l k hlt
    have z1 := zs k hk
    have z2 := reqB_size l[k] hm
    simp only [h1, e, go_sem]
    refine t_call_intro (hE) ?_
    simp only [go_sem]
    by_cases he : reqE l[k] = 0
    · have n0 : (reqE l[k] != 0) = false := by simp [he]
      simp only [n0, h1, e, go_sem]
      refine t_call_intro (hB) ?_
      simp only [go_sem]
      refine t_gate_intro (by first | omega | (simp; omega)) ?_
      simp only [ew, go_sem]
      refine t_round (k + 1) ⟨by omega, all_take l k hlt hall he⟩ (by omega) (by first | (simp; done) | simp [es]) rfl rfl (by simp) rfl
    · have n0 : (reqE l[k] != 0) = true := by simp [he]
      rw [not_all l k hlt he (by omega)]
      simp only [n0, go_sem]
      simp only [aresult, ares, go_sem]
  · have h1 : ¬ (k : Int) < (l.length : Int) := by omega
    have hke : k = l.length := by omega
    subst hke
    have er : encReqs l = encH l l.length := by
      unfold encReqs
      rw [if_neg h64, if_pos (by intro r hr; exact hall r (by rw [List.take_length]; exact hr))]
    rw [er]
    simp only [h1, go_sem]
    simp only [aresult, ares, go_sem]

theorem rsSt_err (l : List UInt8) (a : Int) (k : Nat) (h : (rsSt l a k).2.2 ≠ 0) : ∀ n, k ≤ n → rsSt l a n = rsSt l a k
  | n, hn => by
    induction n with
    | zero => rw [show k = 0 by omega]
    | succ n ih =>
      by_cases hk : k = n + 1
      · rw [hk]
      · have ih := ih (by omega)
        show (if (rsSt l a n).2.2 ≠ 0 then rsSt l a n else _) = _
        rw [if_pos (by rw [ih]; exact h), ih]
theorem rsSt_ok (l : List UInt8) (a : Int) (k : Nat) (h : (rsSt l a k).2.2 = 0) : rsSt l a (k + 1) = ((rsSt l a k).1 ++ [(decReq l (rsSt l a k).2.1).1], (decReq l (rsSt l a k).2.1).2.1, (decReq l (rsSt l a k).2.1).2.2) := if_neg (by simp [h])
def rqC64 (l : List UInt8) (a : Int) := Cw.takeC l a 64
def decReqsN (l : List UInt8) (a : Int) : AV :=
  if (rqC64 l a).2.2 ≠ 0 then .tup [.a .nils, .a (.int .i64 0), .a (.int .i64 (rqC64 l a).2.2)]
  else if (rsSt l (rqC64 l a).2.1 (rqC64 l a).1).2.2 ≠ 0 then .tup [.a .nils, .a (.int .i64 0), .a (.int .i64 (rsSt l (rqC64 l a).2.1 (rqC64 l a).1).2.2)]
  else .tup [.a (.slice 8 ((rsSt l (rqC64 l a).2.1 (rqC64 l a).1).1.map Req.row)), .a (.int .i64 (rsSt l (rqC64 l a).2.1 (rqC64 l a).1).2.1), .a (.int .i64 0)]
def decReqsV (x : List Req × Int × Int) : AV := .tup [.a (.slice 8 (x.1.map Req.row)), .a (.int .i64 x.2.1), .a (.int .i64 x.2.2)]
theorem decReqsN_le (l : List UInt8) (a : Int) : VLe (decReqsN l a) (decReqsV (decReqs l a)) := by
  unfold decReqsN decReqsV decReqs
  show VLe (if (Cw.takeC l a 64).2.2 ≠ 0 then _ else _) _
  split
  · exact VLe.tup ⟨VLe.a (RLe.nils 8), VLe.refl _, VLe.refl _, trivial⟩
  · show VLe (if (rsSt l (Cw.takeC l a 64).2.1 (Cw.takeC l a 64).1).2.2 ≠ 0 then _ else _) _
    split
    · exact VLe.tup ⟨VLe.a (RLe.nils 8), VLe.refl _, VLe.refl _, trivial⟩
    · rename_i h
      have h : (rsSt l (Cw.takeC l a 64).2.1 (Cw.takeC l a 64).1).2.2 = 0 := by simpa using h
      rw [h]
      exact VLe.refl _
theorem rqC64_le (l : List UInt8) (a : Int) : ((rqC64 l a).1 : Int) ≤ 64 := takeC_le l a 64 (by omega)

set_option maxRecDepth 100000 in
set_option maxHeartbeats 4000000 in
theorem decReqs_N (s : ByteArray) (at_ : Int) (hs0 : s.size ≤ 1073741824) : PDen Try.prog 50 [.a (.str s), .a (.int .i64 at_)] (decReqsN s.data.toList at_) := by
  have hC := wtakecount_den s at_ 64 hs0 (by omega)
  have hD := fun a' => decReq_den s a' hs0
  generalize hL : s.data.toList = L at hC hD ⊢
  have hn := rqC64_le L at_
  have eC : takeCV L at_ 64 = .tup [.a (.int .i64 (rqC64 L at_).1), .a (.int .i64 (rqC64 L at_).2.1), .a (.int .i64 (rqC64 L at_).2.2)] := rfl
  rw [eC] at hC
  unfold decReqsN
  generalize rqC64 L at_ = C at hC hn ⊢
  obtain ⟨n, a1, e1⟩ := C
  simp only [] at hC hn ⊢
  refine den_of_body k_batch_Decode ⟨rfl, Nat.le_of_ble_eq_true rfl, thaw_intro ?_⟩
  unfold c_batch_Decode
  simp only [go_sem]
  refine t_call_intro (hC) ?_
  by_cases he1 : e1 = 0
  rotate_left
  · have n1 : (e1 != 0) = true := by simpa using he1
    rw [if_pos he1]
    simp only [n1, go_sem]
    simp only [aresult, ares, go_sem]
  have n1 : (e1 != 0) = false := by simpa using he1
  rw [if_neg (by simpa using he1)]
  simp only [n1, go_sem]
  refine t_loopO_intro [.slot 10 59 8] (fun k : Nat => k ≤ n ∧ ((rsSt L a1 k).2.2 = 0 ∧ (rsSt L a1 k).1.length = k)) (fun k => n - k) 0 [4, 5, 6, 8, 10, 11, 12, 13, 25, 26, 27, 28, 29, 30, 31, 32, 33, 34, 35, 36, 37, 38, 39, 40, 41, 42] (fun k => [(8, .a (.int .i64 (rsSt L a1 k).2.1)), (10, .own 0), (14, .any), (17, .any), (25, .a (.int .i64 k))]) (fun k => []) (fun k => [⟨59, 8, (rsSt L a1 k).1.map Req.row, false⟩]) ⟨by omega, by exact ⟨rfl, rfl⟩⟩ (by simp) (by first | (simp; done) | simp [rsSt]) (by first | (simp; done) | simp [rsSt]) (by first | (simp; done) | simp [rsSt]) (fun k => by first | (simp; done) | simp [rsSt]) (fun k => by first | (simp; done) | simp [rsSt]) (fun k => by first | (simp; done) | simp [rsSt]) ?_
  intro k hk0 st_ hst
  have hk : k ≤ n := hk0.1
  have hall := hk0.2
  clear hk0
  simp only [go_sem] at hst
  subst hst
  by_cases hlt : k < n
  · have h1 : (k : Int) < (n : Int) := by omega
    have ew := wrap1 k n hlt (by omega)
    obtain ⟨g1, g2⟩ := hall
    have es := rsSt_ok L a1 k g1
    have hd := hD (rsSt L a1 k).2.1
    unfold decReqV at hd
    rw [rowr] at hd
    generalize hx : decReq L (rsSt L a1 k).2.1 = X at hd es
    obtain ⟨x, a2, e2⟩ := X
    simp only [] at hd es
    simp only [h1, go_sem]
    refine t_call_intro (hd) ?_
    by_cases he2 : e2 = 0
    · have n2 : (e2 != 0) = false := by simpa using he2
      have eo : (rsSt L a1 k).1.map Req.row ++ [[.int .i64 x.cl, .int .i64 x.sq, .str x.pr, .slice 3 (x.args.map Vl.row), .bool x.dc, .bool x.al, .slice 1 (x.rd.map sRow), .slice 1 (x.wt.map sRow)]] = (rsSt L a1 (k + 1)).1.map Req.row := by rw [es]; simp [rowr]
      have ea : (rsSt L a1 (k + 1)).2.1 = a2 := by rw [es]
      simp only [n2, go_sem]
      refine t_gate_intro (by first | omega | (simp; omega)) ?_
      simp only [eo, ew, go_sem]
      refine t_roundO (k + 1) ⟨by omega, ⟨by rw [es]; exact he2, by rw [es]; simp [g2]⟩⟩ (by omega) (by first | (simp; done) | simp [ea]) (by first | (simp; done) | simp [ea]) (by first | (simp; done) | simp [ea]) (by first | (simp; done) | simp [ea]) (by first | (simp; done) | simp [ea])
    · have n2 : (e2 != 0) = true := by simpa using he2
      have ef : rsSt L a1 n = rsSt L a1 (k + 1) := rsSt_err L a1 (k + 1) (by rw [es]; exact he2) n (by omega)
      have e3 : (rsSt L a1 n).2.2 = e2 := by rw [ef, es]
      rw [if_pos (by rw [e3]; exact he2), e3]
      simp only [n2, go_sem]
      simp only [aresult, ares, go_sem]
  · have h1 : ¬ (k : Int) < (n : Int) := by omega
    have hke : k = n := by omega
    subst hke
    rw [if_neg (by simp [hall.1])]
    simp only [h1, go_sem]
    simp only [aresult, ares, go_sem]
theorem decReqs_den (s : ByteArray) (at_ : Int) (hs0 : s.size ≤ 1073741824) : PDen Try.prog 50 [.a (.str s), .a (.int .i64 at_)] (decReqsV (decReqs s.data.toList at_)) := (decReqs_N s at_ hs0).le (decReqsN_le _ _)

end Go.Proofs.Ytpnihinmlmoogaa

/- The reference's DecodeRequest. -/
namespace Go.Proofs.Ytpnihinmlmoogaa
open Go Ab Go.RowKit
attribute [local irreducible] awp aops aop asoft aeff aloop acall acallI acallT
attribute [local go_sem] Vl.row sRow

def ksG (l : List UInt8) (a e : Int) : Nat → List ByteArray × Int × Int
  | 0 => ([], a, e)
  | k + 1 => if (ksG l a e k).2.2 ≠ 0 then ksG l a e k else ((ksG l a e k).1 ++ [⟨((rdT l 24 (ksG l a e k).2.1 (ksG l a e k).2.2)).1.toArray⟩], (rdT l 24 (ksG l a e k).2.1 (ksG l a e k).2.2).2.1, (rdT l 24 (ksG l a e k).2.1 (ksG l a e k).2.2).2.2)
theorem ksG_err (l : List UInt8) (a e : Int) (k : Nat) (h : (ksG l a e k).2.2 ≠ 0) : ∀ n, k ≤ n → ksG l a e n = ksG l a e k
  | n, hn => by
    induction n with
    | zero => rw [show k = 0 by omega]
    | succ n ih =>
      by_cases hk : k = n + 1
      · rw [hk]
      · have ih := ih (by omega)
        show (if (ksG l a e n).2.2 ≠ 0 then ksG l a e n else _) = _
        rw [if_pos (by rw [ih]; exact h), ih]
theorem ksG_ok (l : List UInt8) (a e : Int) (k : Nat) (h : (ksG l a e k).2.2 = 0) : ksG l a e (k + 1) = ((ksG l a e k).1 ++ [⟨((rdT l 24 (ksG l a e k).2.1 (ksG l a e k).2.2)).1.toArray⟩], (rdT l 24 (ksG l a e k).2.1 (ksG l a e k).2.2).2.1, (rdT l 24 (ksG l a e k).2.1 (ksG l a e k).2.2).2.2) := if_neg (by simp [h])
theorem ksG_st (l : List UInt8) (a e : Int) : ∀ n, (ksG l a e n).2 = (ksSt l a e n).2 ∧ ((ksSt l a e n).2.2 = 0 → ksG l a e n = ksSt l a e n)
  | 0 => ⟨rfl, fun _ => rfl⟩
  | n + 1 => by
    obtain ⟨h1, h2⟩ := ksG_st l a e n
    by_cases he : (ksG l a e n).2.2 = 0
    · have he2 : (ksSt l a e n).2.2 = 0 := by rw [← h1]; exact he
      have h3 := h2 he2
      have h4 : ksG l a e (n + 1) = ksSt l a e (n + 1) := by rw [ksG_ok l a e n he, h3]; rfl
      exact ⟨by rw [h4], fun _ => h4⟩
    · have he2 : (ksSt l a e n).2.2 ≠ 0 := by rw [← h1]; exact he
      have h3 := ksSt_err l a e n he2 (n + 1) (by omega)
      have h4 := ksG_err l a e n he (n + 1) (by omega)
      exact ⟨by rw [h4, h3, h1], fun h => absurd h (by rw [h3]; exact he2)⟩
def rkKs (l : List UInt8) (a : Int) : List ByteArray × Int × Int := ksG l (Cw.takeC l a 64).2.1 (Cw.takeC l a 64).2.2 (Cw.takeC l a 64).1
theorem rkKs_st (l : List UInt8) (a : Int) : (rkKs l a).2 = (rdKs l a 0).2 ∧ ((rdKs l a 0).2.2 = 0 → rkKs l a = rdKs l a 0) := by
  unfold rkKs rdKs
  rw [rdC_ok]
  exact ksG_st l _ _ _

def vsG (l : List UInt8) (a e : Int) : Nat → List Vl × Int × Int
  | 0 => ([], a, e)
  | k + 1 => if (vsG l a e k).2.2 ≠ 0 then vsG l a e k else ((vsG l a e k).1 ++ [((rdV l (vsG l a e k).2.1 (vsG l a e k).2.2)).1], (rdV l (vsG l a e k).2.1 (vsG l a e k).2.2).2.1, (rdV l (vsG l a e k).2.1 (vsG l a e k).2.2).2.2)
theorem vsG_err (l : List UInt8) (a e : Int) (k : Nat) (h : (vsG l a e k).2.2 ≠ 0) : ∀ n, k ≤ n → vsG l a e n = vsG l a e k
  | n, hn => by
    induction n with
    | zero => rw [show k = 0 by omega]
    | succ n ih =>
      by_cases hk : k = n + 1
      · rw [hk]
      · have ih := ih (by omega)
        show (if (vsG l a e n).2.2 ≠ 0 then vsG l a e n else _) = _
        rw [if_pos (by rw [ih]; exact h), ih]
theorem vsG_ok (l : List UInt8) (a e : Int) (k : Nat) (h : (vsG l a e k).2.2 = 0) : vsG l a e (k + 1) = ((vsG l a e k).1 ++ [((rdV l (vsG l a e k).2.1 (vsG l a e k).2.2)).1], (rdV l (vsG l a e k).2.1 (vsG l a e k).2.2).2.1, (rdV l (vsG l a e k).2.1 (vsG l a e k).2.2).2.2) := if_neg (by simp [h])
theorem vsG_st (l : List UInt8) (a e : Int) : ∀ n, (vsG l a e n).2 = (vsSt l a e n).2 ∧ ((vsSt l a e n).2.2 = 0 → vsG l a e n = vsSt l a e n)
  | 0 => ⟨rfl, fun _ => rfl⟩
  | n + 1 => by
    obtain ⟨h1, h2⟩ := vsG_st l a e n
    by_cases he : (vsG l a e n).2.2 = 0
    · have he2 : (vsSt l a e n).2.2 = 0 := by rw [← h1]; exact he
      have h3 := h2 he2
      have h4 : vsG l a e (n + 1) = vsSt l a e (n + 1) := by rw [vsG_ok l a e n he, h3]; rfl
      exact ⟨by rw [h4], fun _ => h4⟩
    · have he2 : (vsSt l a e n).2.2 ≠ 0 := by rw [← h1]; exact he
      have h3 := vsSt_err l a e n he2 (n + 1) (by omega)
      have h4 := vsG_err l a e n he (n + 1) (by omega)
      exact ⟨by rw [h4, h3, h1], fun h => absurd h (by rw [h3]; exact he2)⟩
def rkVs (l : List UInt8) (a : Int) : List Vl × Int × Int := vsG l (Cw.takeC l a 6).2.1 (Cw.takeC l a 6).2.2 (Cw.takeC l a 6).1
theorem rkVs_st (l : List UInt8) (a : Int) : (rkVs l a).2 = (rdVs l a 0).2 ∧ ((rdVs l a 0).2.2 = 0 → rkVs l a = rdVs l a 0) := by
  unfold rkVs rdVs
  rw [rdC_ok]
  exact vsG_st l _ _ _

set_option maxRecDepth 100000 in
set_option maxHeartbeats 4000000 in
theorem takeKeys_den (s : ByteArray) (at_ : Int) (hs0 : s.size ≤ 1073741824) : PDen Try.prog 114 [.a (.str s), .a (.int .i64 at_)] (.tup [.a (.slice 1 ((rkKs s.data.toList at_).1.map sRow)), .a (.int .i64 (rkKs s.data.toList at_).2.1), .a (.int .i64 (rkKs s.data.toList at_).2.2)]) := by
  have hC := rtakecount_den s at_ 64 hs0 (by omega)
  have hD := fun a' => rtaketext_den s a' 24 hs0 (by omega)
  generalize hL : s.data.toList = L at hC hD ⊢
  have hn : ((Cw.takeC L at_ 64).1 : Int) ≤ 64 := takeC_le L at_ 64 (by omega)
  have eC : takeCV L at_ 64 = .tup [.a (.int .i64 (Cw.takeC L at_ 64).1), .a (.int .i64 (Cw.takeC L at_ 64).2.1), .a (.int .i64 (Cw.takeC L at_ 64).2.2)] := rfl
  rw [eC] at hC
  unfold rkKs
  generalize Cw.takeC L at_ 64 = C at hC hn ⊢
  obtain ⟨n, a1, e1⟩ := C
  simp only [] at hC hn ⊢
  refine den_of_body k_ref36_takeKeys ⟨rfl, Nat.le_of_ble_eq_true rfl, thaw_intro ?_⟩
  unfold c_ref36_takeKeys
  simp only [go_sem]
  refine t_call_intro (hC) ?_
  simp only [go_sem]
  refine t_loopO_intro [.slot 9 9 1] (fun k : Nat => k ≤ n ∧ ((ksG L a1 e1 k).1.length = k)) (fun k => n - k) 0 [1, 8, 9, 10, 11, 12, 13, 21, 22, 23, 24, 25, 26, 27, 28, 29, 30, 31, 32, 33, 34, 35, 36, 37, 38, 39, 40, 41, 42] (fun k => [(1, .a (.int .i64 (ksG L a1 e1 k).2.1)), (8, .a (.int .i64 (ksG L a1 e1 k).2.2)), (9, .own 0), (10, .a (.int .i64 k)), (14, .any), (17, .any)]) (fun k => []) (fun k => [⟨9, 1, (ksG L a1 e1 k).1.map sRow, false⟩]) ⟨by omega, by exact rfl⟩ (by simp) (by first | (simp; done) | simp [ksG]) (by first | (simp; done) | simp [ksG]) (by first | (simp; done) | simp [ksG]) (fun k => by first | (simp; done) | simp [ksG]) (fun k => by first | (simp; done) | simp [ksG]) (fun k => by first | (simp; done) | simp [ksG]) ?_
  intro k hk0 st_ hst
  have hk : k ≤ n := hk0.1
  have hall := hk0.2
  clear hk0
  simp only [go_sem] at hst
  subst hst
  by_cases hlt : k < n
  · have h1 : (k : Int) < (n : Int) := by omega
    have ew := wrap1 k n hlt (by omega)
    by_cases he : (ksG L a1 e1 k).2.2 = 0
    · have n1 : ((ksG L a1 e1 k).2.2 == 0) = true := by simpa using he
      have es := ksG_ok L a1 e1 k he
      rw [he, rdT_ok] at es
      have eo : (ksG L a1 e1 k).1.map sRow ++ [[.str ⟨(Cw.takeT L (ksG L a1 e1 k).2.1 24).1.toArray⟩]] = (ksG L a1 e1 (k + 1)).1.map sRow := by rw [es]; simp [sRow]
      have ea : (ksG L a1 e1 (k + 1)).2.1 = (Cw.takeT L (ksG L a1 e1 k).2.1 24).2.1 := by rw [es]
      have ee : (ksG L a1 e1 (k + 1)).2.2 = (Cw.takeT L (ksG L a1 e1 k).2.1 24).2.2 := by rw [es]
      simp only [h1, n1, go_sem]
      refine t_call_intro (hD _) ?_
      simp only [takeTV, go_sem]
      refine t_gate_intro (by first | omega | (simp; omega)) ?_
      simp only [eo, ew, go_sem]
      refine t_roundO (k + 1) ⟨by omega, by rw [es]; simp [hall]⟩ (by omega) (by first | (simp; done) | simp [ea, ee]) (by first | (simp; done) | simp [ea, ee]) (by first | (simp; done) | simp [ea, ee]) (by first | (simp; done) | simp [ea, ee]) (by first | (simp; done) | simp [ea, ee])
    · have n1 : ((ksG L a1 e1 k).2.2 == 0) = false := by simpa using he
      have ef := ksG_err L a1 e1 k he n (by omega)
      rw [ef]
      simp only [h1, n1, go_sem]
      simp only [aresult, ares, go_sem]
  · have h1 : ¬ (k : Int) < (n : Int) := by omega
    have hke : k = n := by omega
    subst hke
    simp only [h1, go_sem]
    simp only [aresult, ares, go_sem]

set_option maxRecDepth 100000 in
set_option maxHeartbeats 4000000 in
theorem takeArgs_den (s : ByteArray) (at_ : Int) (hs0 : s.size ≤ 1073741824) : PDen Try.prog 112 [.a (.str s), .a (.int .i64 at_)] (.tup [.a (.slice 3 ((rkVs s.data.toList at_).1.map Vl.row)), .a (.int .i64 (rkVs s.data.toList at_).2.1), .a (.int .i64 (rkVs s.data.toList at_).2.2)]) := by
  have hC := rtakecount_den s at_ 6 hs0 (by omega)
  have hD := fun a' => rvdec_den s a' hs0
  generalize hL : s.data.toList = L at hC hD ⊢
  have hn : ((Cw.takeC L at_ 6).1 : Int) ≤ 6 := takeC_le L at_ 6 (by omega)
  have eC : takeCV L at_ 6 = .tup [.a (.int .i64 (Cw.takeC L at_ 6).1), .a (.int .i64 (Cw.takeC L at_ 6).2.1), .a (.int .i64 (Cw.takeC L at_ 6).2.2)] := rfl
  rw [eC] at hC
  unfold rkVs
  generalize Cw.takeC L at_ 6 = C at hC hn ⊢
  obtain ⟨n, a1, e1⟩ := C
  simp only [] at hC hn ⊢
  refine den_of_body k_ref36_takeArgs ⟨rfl, Nat.le_of_ble_eq_true rfl, thaw_intro ?_⟩
  unfold c_ref36_takeArgs
  simp only [go_sem]
  refine t_call_intro (hC) ?_
  simp only [go_sem]
  refine t_loopO_intro [.slot 9 80 3] (fun k : Nat => k ≤ n ∧ ((vsG L a1 e1 k).1.length = k)) (fun k => n - k) 0 [1, 8, 9, 10, 11, 12, 13, 21, 22, 23, 24, 25, 26, 27, 28, 29, 30, 31, 32, 33, 34, 35, 36, 37, 38, 39, 40, 41, 42] (fun k => [(1, .a (.int .i64 (vsG L a1 e1 k).2.1)), (8, .a (.int .i64 (vsG L a1 e1 k).2.2)), (9, .own 0), (10, .a (.int .i64 k)), (14, .any), (17, .any)]) (fun k => []) (fun k => [⟨80, 3, (vsG L a1 e1 k).1.map Vl.row, false⟩]) ⟨by omega, by exact rfl⟩ (by simp) (by first | (simp; done) | simp [vsG]) (by first | (simp; done) | simp [vsG]) (by first | (simp; done) | simp [vsG]) (fun k => by first | (simp; done) | simp [vsG]) (fun k => by first | (simp; done) | simp [vsG]) (fun k => by first | (simp; done) | simp [vsG]) ?_
  intro k hk0 st_ hst
  have hk : k ≤ n := hk0.1
  have hall := hk0.2
  clear hk0
  simp only [go_sem] at hst
  subst hst
  by_cases hlt : k < n
  · have h1 : (k : Int) < (n : Int) := by omega
    have ew := wrap1 k n hlt (by omega)
    by_cases he : (vsG L a1 e1 k).2.2 = 0
    · have n1 : ((vsG L a1 e1 k).2.2 == 0) = true := by simpa using he
      have es := vsG_ok L a1 e1 k he
      rw [he, rdV_ok] at es
      have eo : (vsG L a1 e1 k).1.map Vl.row ++ [[.int .i64 (decV L (vsG L a1 e1 k).2.1).1.kind, .int .i64 (decV L (vsG L a1 e1 k).2.1).1.n, .str (decV L (vsG L a1 e1 k).2.1).1.s]] = (vsG L a1 e1 (k + 1)).1.map Vl.row := by rw [es]; simp [Vl.row]
      have ea : (vsG L a1 e1 (k + 1)).2.1 = (decV L (vsG L a1 e1 k).2.1).2.1 := by rw [es]
      have ee : (vsG L a1 e1 (k + 1)).2.2 = (decV L (vsG L a1 e1 k).2.1).2.2 := by rw [es]
      simp only [h1, n1, go_sem]
      refine t_call_intro (hD _) ?_
      simp only [decVV, go_sem]
      refine t_gate_intro (by first | omega | (simp; omega)) ?_
      simp only [eo, ew, go_sem]
      refine t_roundO (k + 1) ⟨by omega, by rw [es]; simp [hall]⟩ (by omega) (by first | (simp; done) | simp [ea, ee]) (by first | (simp; done) | simp [ea, ee]) (by first | (simp; done) | simp [ea, ee]) (by first | (simp; done) | simp [ea, ee]) (by first | (simp; done) | simp [ea, ee])
    · have n1 : ((vsG L a1 e1 k).2.2 == 0) = false := by simpa using he
      have ef := vsG_err L a1 e1 k he n (by omega)
      rw [ef]
      simp only [h1, n1, go_sem]
      simp only [aresult, ares, go_sem]
  · have h1 : ¬ (k : Int) < (n : Int) := by omega
    have hke : k = n := by omega
    subst hke
    simp only [h1, go_sem]
    simp only [aresult, ares, go_sem]

/-! The head -/
def smallR (l : List UInt8) (a : Int) : Bool := decide ((rqU1 l a).1 ≤ 32) && decide ((rqU2 l a).1 ≤ 1099511627776)
def headV (l : List UInt8) (a : Int) : AV :=
  if (rqP l a).2.2 ≠ 0 then .tup [.agg reqZ, .a (.bool false), .a (.int .i64 0), .a (.int .i64 (rqP l a).2.2)]
  else if smallR l a = true then .tup [.agg [.int .i64 (rqU1 l a).1, .int .i64 (rqU2 l a).1, .str ⟨(rqP l a).1.toArray⟩, .nils, .bool false, .bool false, .nils, .nils], .a (.bool true), .a (.int .i64 (rqP l a).2.1), .a (.int .i64 0)]
  else .tup [.agg [.int .i64 0, .int .i64 0, .str ⟨(rqP l a).1.toArray⟩, .nils, .bool false, .bool false, .nils, .nils], .a (.bool false), .a (.int .i64 (rqP l a).2.1), .a (.int .i64 0)]
theorem rqU2_of (l : List UInt8) (a : Int) (h : (rqU1 l a).2.2 ≠ 0) : (rqU2 l a).2.2 = (rqU1 l a).2.2 := by unfold rqU2; rw [rdU_err _ _ _ h]
theorem rqP_of (l : List UInt8) (a : Int) (h : (rqU2 l a).2.2 ≠ 0) : (rqP l a).2.2 = (rqU2 l a).2.2 := by unfold rqP; rw [rdT_err _ _ _ _ h]
theorem rqV_of (l : List UInt8) (a : Int) (h : (rqP l a).2.2 ≠ 0) : (rqV l a).2.2 = (rqP l a).2.2 := by unfold rqV; rw [rdVs_err _ _ _ h]
theorem rqD_of (l : List UInt8) (a : Int) (h : (rqV l a).2.2 ≠ 0) : (rqD l a).2.2 = (rqV l a).2.2 := by unfold rqD; rw [rdF_err _ _ _ h]
theorem rqR_of (l : List UInt8) (a : Int) (h : (rqD l a).2.2 ≠ 0) : (rqR l a).2.2 = (rqD l a).2.2 := by unfold rqR; rw [rdFt_err _ _ _ _ h]
theorem rqW_of (l : List UInt8) (a : Int) (h : (rqR l a).2.2 ≠ 0) : (rqW l a).2.2 = (rqR l a).2.2 := by unfold rqW; rw [rdFt_err _ _ _ _ h]
theorem W_of_R (l : List UInt8) (a : Int) (h : (rqR l a).2.2 ≠ 0) : (rqW l a).2.2 = (rqR l a).2.2 := rqW_of l a h
theorem W_of_D (l : List UInt8) (a : Int) (h : (rqD l a).2.2 ≠ 0) : (rqW l a).2.2 = (rqD l a).2.2 := by have e := rqR_of l a h; rw [W_of_R l a (by rw [e]; exact h), e]
theorem W_of_V (l : List UInt8) (a : Int) (h : (rqV l a).2.2 ≠ 0) : (rqW l a).2.2 = (rqV l a).2.2 := by have e := rqD_of l a h; rw [W_of_D l a (by rw [e]; exact h), e]
theorem W_of_P (l : List UInt8) (a : Int) (h : (rqP l a).2.2 ≠ 0) : (rqW l a).2.2 = (rqP l a).2.2 := by have e := rqV_of l a h; rw [W_of_V l a (by rw [e]; exact h), e]
set_option maxRecDepth 100000 in
set_option maxHeartbeats 4000000 in
theorem takeHead_den (s : ByteArray) (at_ : Int) (hs0 : s.size ≤ 1073741824) : PDen Try.prog 111 [.a (.str s), .a (.int .i64 at_)] (headV s.data.toList at_) := by
  have hU := fun a' => rtakeuint_den s a' hs0
  have hT := fun a' => rtaketext_den s a' 16 hs0 (by omega)
  generalize hL : s.data.toList = L at hU hT ⊢
  have e1 : takeUV L at_ = .tup [.a (.int .u64 (rqU1 L at_).1), .a (.int .i64 (rqU1 L at_).2.1), .a (.int .i64 (rqU1 L at_).2.2)] := by unfold rqU1; rw [rdU_ok]; rfl
  have c1 := hU at_
  rw [e1] at c1
  refine den_of_body k_ref36_takeHead ⟨rfl, Nat.le_of_ble_eq_true rfl, thaw_intro ?_⟩
  unfold c_ref36_takeHead
  simp only [go_sem]
  refine t_call_intro (c1) ?_
  by_cases z1 : (rqU1 L at_).2.2 = 0
  rotate_left
  · have n1 : ((rqU1 L at_).2.2 != 0) = true := by simpa using z1
    have f1 := rqU2_of L at_ z1
    have f2 := rqP_of L at_ (by rw [f1]; exact z1)
    have ez : (rqP L at_).2.2 = (rqU1 L at_).2.2 := by rw [f2, f1]
    unfold headV
    rw [if_pos (by rw [ez]; exact z1), ez]
    simp only [n1, reqZ, go_sem]
    simp only [aresult, ares, go_sem]
  have n1 : ((rqU1 L at_).2.2 != 0) = false := by simpa using z1
  have e2 : takeUV L (rqU1 L at_).2.1 = .tup [.a (.int .u64 (rqU2 L at_).1), .a (.int .i64 (rqU2 L at_).2.1), .a (.int .i64 (rqU2 L at_).2.2)] := by unfold rqU2; rw [z1, rdU_ok]; rfl
  have c2 := hU (rqU1 L at_).2.1
  rw [e2] at c2
  simp only [n1, go_sem]
  refine t_call_intro (c2) ?_
  by_cases z2 : (rqU2 L at_).2.2 = 0
  rotate_left
  · have n2 : ((rqU2 L at_).2.2 != 0) = true := by simpa using z2
    have f2 := rqP_of L at_ z2
    unfold headV
    rw [if_pos (by rw [f2]; exact z2), f2]
    simp only [n2, reqZ, go_sem]
    simp only [aresult, ares, go_sem]
  have n2 : ((rqU2 L at_).2.2 != 0) = false := by simpa using z2
  have e3 : takeTV L (rqU2 L at_).2.1 16 = .tup [.a (.str ⟨(rqP L at_).1.toArray⟩), .a (.int .i64 (rqP L at_).2.1), .a (.int .i64 (rqP L at_).2.2)] := by unfold rqP; rw [z2, rdT_ok]; rfl
  have c3 := hT (rqU2 L at_).2.1
  rw [e3] at c3
  simp only [n2, go_sem]
  refine t_call_intro (c3) ?_
  by_cases z3 : (rqP L at_).2.2 = 0
  rotate_left
  · have n3 : ((rqP L at_).2.2 != 0) = true := by simpa using z3
    unfold headV
    rw [if_pos z3]
    simp only [n3, reqZ, go_sem]
    simp only [aresult, ares, go_sem]
  have n3 : ((rqP L at_).2.2 != 0) = false := by simpa using z3
  unfold headV
  rw [if_neg (by simpa using z3)]
  by_cases u1 : (rqU1 L at_).1 ≤ 32
  · have q1 : ((rqU1 L at_).1 : Int) ≤ 32 := by omega
    have w1 : IntKind.i64.wrap ((rqU1 L at_).1 : Int) = ((rqU1 L at_).1 : Int) := by rw [IntKind.wrap_i64]; omega
    by_cases u2 : (rqU2 L at_).1 ≤ 1099511627776
    · have q2 : ((rqU2 L at_).1 : Int) ≤ 1099511627776 := by omega
      have w2 : IntKind.i64.wrap ((rqU2 L at_).1 : Int) = ((rqU2 L at_).1 : Int) := by rw [IntKind.wrap_i64]; omega
      have hs : smallR L at_ = true := by simp [smallR, u1, u2]
      rw [if_pos hs]
      simp only [n3, q1, q2, w1, w2, go_sem]
      simp only [aresult, ares, go_sem]
    · have q2 : ¬ ((rqU2 L at_).1 : Int) ≤ 1099511627776 := by omega
      have hs : ¬ smallR L at_ = true := by simp [smallR, u1, u2]
      have w0 : IntKind.i64.wrap 0 = 0 := by decide
      rw [if_neg hs]
      simp only [n3, q1, q2, w0, go_sem]
      simp only [aresult, ares, go_sem]
  · have q1 : ¬ ((rqU1 L at_).1 : Int) ≤ 32 := by omega
    have hs : ¬ smallR L at_ = true := by simp [smallR, u1]
    have w0 : IntKind.i64.wrap 0 = 0 := by decide
    rw [if_neg hs]
    simp only [n3, q1, w0, go_sem]
    simp only [aresult, ares, go_sem]

set_option maxRecDepth 100000 in
set_option maxHeartbeats 4000000 in
theorem rdecReq_N (s : ByteArray) (at_ : Int) (hs0 : s.size ≤ 1073741824) : PDen Try.prog 96 [.a (.str s), .a (.int .i64 at_)] (decReqN s.data.toList at_) := by
  have hH := takeHead_den s at_ hs0
  have hA0 := fun a' => takeArgs_den s a' hs0
  have hB0 := fun a' => rtakebool_den s a' hs0
  have hK0 := fun a' => takeKeys_den s a' hs0
  have hlen : s.data.toList.length ≤ 1073741824 := by rw [dsize]; exact hs0
  generalize hL : s.data.toList = L at hlen hH hA0 hB0 hK0 ⊢
  unfold headV at hH
  by_cases zP : (rqP L at_).2.2 = 0
  rotate_left
  · have n_ : ((rqP L at_).2.2 != 0) = true := by simpa using zP
    have ez := W_of_P L at_ zP
    have er : decReqN L at_ = .tup [.agg reqZ, .a (.int .i64 0), .a (.int .i64 (rqP L at_).2.2)] := by unfold decReqN; rw [if_pos (by rw [ez]; exact zP), ez]
    rw [er]
    rw [if_pos zP] at hH
    refine den_of_body k_ref36_DecodeRequest ⟨rfl, Nat.le_of_ble_eq_true rfl, thaw_intro ?_⟩
    unfold c_ref36_DecodeRequest
    simp only [go_sem]
    refine t_call_intro (hH) ?_
    simp only [n_, reqZ, go_sem]
    simp only [aresult, ares, go_sem]
  rw [if_neg (by simpa using zP)] at hH
  have eV0 := rkVs_st L (rqP L at_).2.1
  have eVV : rqV L at_ = rdVs L (rqP L at_).2.1 0 := by unfold rqV; rw [zP]
  rw [← eVV] at eV0
  have hA := hA0 (rqP L at_).2.1
  rw [eV0.1] at hA
  by_cases zV : (rqV L at_).2.2 = 0
  rotate_left
  · have n_ : ((rqV L at_).2.2 != 0) = true := by simpa using zV
    have ez := W_of_V L at_ zV
    have er : decReqN L at_ = .tup [.agg reqZ, .a (.int .i64 0), .a (.int .i64 (rqV L at_).2.2)] := by unfold decReqN; rw [if_pos (by rw [ez]; exact zV), ez]
    rw [er]
    by_cases hs : smallR L at_ = true
    · rw [if_pos hs] at hH
      refine den_of_body k_ref36_DecodeRequest ⟨rfl, Nat.le_of_ble_eq_true rfl, thaw_intro ?_⟩
      unfold c_ref36_DecodeRequest
      simp only [go_sem]
      refine t_call_intro (hH) ?_
      simp only [z00, go_sem]
      refine t_call_intro (hA) ?_
      simp only [n_, reqZ, go_sem]
      simp only [aresult, ares, go_sem]
    · rw [if_neg hs] at hH
      refine den_of_body k_ref36_DecodeRequest ⟨rfl, Nat.le_of_ble_eq_true rfl, thaw_intro ?_⟩
      unfold c_ref36_DecodeRequest
      simp only [go_sem]
      refine t_call_intro (hH) ?_
      simp only [z00, go_sem]
      refine t_call_intro (hA) ?_
      simp only [n_, reqZ, go_sem]
      simp only [aresult, ares, go_sem]

  have nV : ((rqV L at_).2.2 != 0) = false := by simpa using zV
  rw [eV0.2 zV] at hA
  have eD : takeBV L (rqV L at_).2.1 = .tup [.a (.bool (rqD L at_).1), .a (.int .i64 (rqD L at_).2.1), .a (.int .i64 (rqD L at_).2.2)] := by unfold rqD; rw [zV, rdF_ok]; rfl
  have hB := hB0 (rqV L at_).2.1
  rw [eD] at hB
  by_cases zD : (rqD L at_).2.2 = 0
  rotate_left
  · have n_ : ((rqD L at_).2.2 != 0) = true := by simpa using zD
    have ez := W_of_D L at_ zD
    have er : decReqN L at_ = .tup [.agg reqZ, .a (.int .i64 0), .a (.int .i64 (rqD L at_).2.2)] := by unfold decReqN; rw [if_pos (by rw [ez]; exact zD), ez]
    rw [er]
    by_cases hs : smallR L at_ = true
    · rw [if_pos hs] at hH
      refine den_of_body k_ref36_DecodeRequest ⟨rfl, Nat.le_of_ble_eq_true rfl, thaw_intro ?_⟩
      unfold c_ref36_DecodeRequest
      simp only [go_sem]
      refine t_call_intro (hH) ?_
      simp only [z00, go_sem]
      refine t_call_intro (hA) ?_
      simp only [nV, go_sem]
      refine t_call_intro (hB) ?_
      simp only [n_, reqZ, go_sem]
      simp only [aresult, ares, go_sem]
    · rw [if_neg hs] at hH
      refine den_of_body k_ref36_DecodeRequest ⟨rfl, Nat.le_of_ble_eq_true rfl, thaw_intro ?_⟩
      unfold c_ref36_DecodeRequest
      simp only [go_sem]
      refine t_call_intro (hH) ?_
      simp only [z00, go_sem]
      refine t_call_intro (hA) ?_
      simp only [nV, go_sem]
      refine t_call_intro (hB) ?_
      simp only [n_, reqZ, go_sem]
      simp only [aresult, ares, go_sem]

  have nD : ((rqD L at_).2.2 != 0) = false := by simpa using zD
  cases hd : (rqD L at_).1 with
  | true =>
    rw [hd] at hB
    have eR : rqR L at_ = rdKs L (rqD L at_).2.1 0 := by unfold rqR rdFt; rw [if_pos hd, zD]
    have eR0 := rkKs_st L (rqD L at_).2.1
    rw [← eR] at eR0
    have hR := hK0 (rqD L at_).2.1
    rw [eR0.1] at hR
    by_cases zR : (rqR L at_).2.2 = 0
    rotate_left
    · have n_ : ((rqR L at_).2.2 != 0) = true := by simpa using zR
      have ez := W_of_R L at_ zR
      have er : decReqN L at_ = .tup [.agg reqZ, .a (.int .i64 0), .a (.int .i64 (rqR L at_).2.2)] := by unfold decReqN; rw [if_pos (by rw [ez]; exact zR), ez]
      rw [er]
      by_cases hs : smallR L at_ = true
      · rw [if_pos hs] at hH
        refine den_of_body k_ref36_DecodeRequest ⟨rfl, Nat.le_of_ble_eq_true rfl, thaw_intro ?_⟩
        unfold c_ref36_DecodeRequest
        simp only [go_sem]
        refine t_call_intro (hH) ?_
        simp only [z00, go_sem]
        refine t_call_intro (hA) ?_
        simp only [nV, go_sem]
        refine t_call_intro (hB) ?_
        simp only [nD, go_sem]
        refine t_call_intro (hR) ?_
        simp only [n_, reqZ, go_sem]
        simp only [aresult, ares, go_sem]
      · rw [if_neg hs] at hH
        refine den_of_body k_ref36_DecodeRequest ⟨rfl, Nat.le_of_ble_eq_true rfl, thaw_intro ?_⟩
        unfold c_ref36_DecodeRequest
        simp only [go_sem]
        refine t_call_intro (hH) ?_
        simp only [z00, go_sem]
        refine t_call_intro (hA) ?_
        simp only [nV, go_sem]
        refine t_call_intro (hB) ?_
        simp only [nD, go_sem]
        refine t_call_intro (hR) ?_
        simp only [n_, reqZ, go_sem]
        simp only [aresult, ares, go_sem]
  
    have nR : ((rqR L at_).2.2 != 0) = false := by simpa using zR
    rw [eR0.2 zR] at hR
    have eW : rqW L at_ = rdKs L (rqR L at_).2.1 0 := by unfold rqW rdFt; rw [if_pos hd, zR]
    have eW0 := rkKs_st L (rqR L at_).2.1
    rw [← eW] at eW0
    have hW := hK0 (rqR L at_).2.1
    rw [eW0.1] at hW
    by_cases zW : (rqW L at_).2.2 = 0
    rotate_left
    · have n_ : ((rqW L at_).2.2 != 0) = true := by simpa using zW
      have ez := (rfl : (rqW L at_).2.2 = (rqW L at_).2.2)
      have er : decReqN L at_ = .tup [.agg reqZ, .a (.int .i64 0), .a (.int .i64 (rqW L at_).2.2)] := by unfold decReqN; rw [if_pos (by rw [ez]; exact zW), ez]
      rw [er]
      by_cases hs : smallR L at_ = true
      · rw [if_pos hs] at hH
        refine den_of_body k_ref36_DecodeRequest ⟨rfl, Nat.le_of_ble_eq_true rfl, thaw_intro ?_⟩
        unfold c_ref36_DecodeRequest
        simp only [go_sem]
        refine t_call_intro (hH) ?_
        simp only [z00, go_sem]
        refine t_call_intro (hA) ?_
        simp only [nV, go_sem]
        refine t_call_intro (hB) ?_
        simp only [nD, go_sem]
        refine t_call_intro (hR) ?_
        simp only [nR, go_sem]
        refine t_call_intro (hW) ?_
        simp only [n_, reqZ, go_sem]
        simp only [aresult, ares, go_sem]
      · rw [if_neg hs] at hH
        refine den_of_body k_ref36_DecodeRequest ⟨rfl, Nat.le_of_ble_eq_true rfl, thaw_intro ?_⟩
        unfold c_ref36_DecodeRequest
        simp only [go_sem]
        refine t_call_intro (hH) ?_
        simp only [z00, go_sem]
        refine t_call_intro (hA) ?_
        simp only [nV, go_sem]
        refine t_call_intro (hB) ?_
        simp only [nD, go_sem]
        refine t_call_intro (hR) ?_
        simp only [nR, go_sem]
        refine t_call_intro (hW) ?_
        simp only [n_, reqZ, go_sem]
        simp only [aresult, ares, go_sem]
  
    have nW : ((rqW L at_).2.2 != 0) = false := by simpa using zW
    rw [eW0.2 zW] at hW
    by_cases hs : smallR L at_ = true
    rotate_left
    · have hlim : 32 < (rqU1 L at_).1 ∨ 1099511627776 < (rqU2 L at_).1 := by
        simp only [smallR, Bool.and_eq_true, decide_eq_true_eq] at hs; omega
      have er : decReqN L at_ = .tup [.agg reqZ, .a (.int .i64 0), .a (.int .i64 5)] := by unfold decReqN; rw [if_neg (by simpa using zW), if_pos hlim]
      rw [if_neg hs] at hH
      rw [er]
      refine den_of_body k_ref36_DecodeRequest ⟨rfl, Nat.le_of_ble_eq_true rfl, thaw_intro ?_⟩
      unfold c_ref36_DecodeRequest
      simp only [go_sem]
      refine t_call_intro (hH) ?_
      simp only [z00, go_sem]
      refine t_call_intro (hA) ?_
      simp only [nV, go_sem]
      refine t_call_intro (hB) ?_
      simp only [nD, hd, go_sem]
      refine t_call_intro (hR) ?_
      simp only [nR, go_sem]
      refine t_call_intro (hW) ?_
      simp only [nW, go_sem]
      simp only [reqZ, go_sem]
      simp only [aresult, ares, go_sem]
    have hl1 : (rqU1 L at_).1 ≤ 32 := by simp only [smallR, Bool.and_eq_true, decide_eq_true_eq] at hs; exact hs.1
    have hl2 : (rqU2 L at_).1 ≤ 1099511627776 := by simp only [smallR, Bool.and_eq_true, decide_eq_true_eq] at hs; exact hs.2
    rw [if_pos hs] at hH
    have hE : PDen Try.prog 38 [.agg [.int .i64 (rqU1 L at_).1, .int .i64 (rqU2 L at_).1, .str ⟨(rqP L at_).1.toArray⟩, .slice 3 ((rqV L at_).1.map Vl.row), .bool true, .bool false, .slice 1 ((rqR L at_).1.map sRow), .slice 1 ((rqW L at_).1.map sRow)]] (.a (.int .i64 (reqE (rqX L at_)))) := by
      have h := rreqE_den (rqX L at_) (rqX_fit L at_ hlen)
      rw [rowr] at h
      have e : (rqX L at_).dc = true := hd
      rw [e] at h
      exact h
    by_cases hr : reqE (rqX L at_) = 0
    · have er : decReqN L at_ = .tup [.agg (rowN (rqX L at_)), .a (.int .i64 (rqW L at_).2.1), .a (.int .i64 0)] := by
        unfold decReqN; rw [if_neg (by simpa using zW), if_neg (by omega), if_neg (by simpa using hr)]
      have eN : rowN (rqX L at_) = [.int .i64 (rqU1 L at_).1, .int .i64 (rqU2 L at_).1, .str ⟨(rqP L at_).1.toArray⟩, .slice 3 ((rqV L at_).1.map Vl.row), .bool true, .bool false, .slice 1 ((rqR L at_).1.map sRow), .slice 1 ((rqW L at_).1.map sRow)] := by
        unfold rowN
        rw [if_pos (show (rqX L at_).dc = true from hd), if_pos (show (rqX L at_).dc = true from hd)]
        show [_, _, _, _, Atom.bool (rqD L at_).1, _, _, _] = _
        rw [hd]
        rfl
      have nE : (reqE (rqX L at_) != 0) = false := by simp [hr]
      rw [er, eN]
      refine den_of_body k_ref36_DecodeRequest ⟨rfl, Nat.le_of_ble_eq_true rfl, thaw_intro ?_⟩
      unfold c_ref36_DecodeRequest
      simp only [go_sem]
      refine t_call_intro (hH) ?_
      simp only [z00, go_sem]
      refine t_call_intro (hA) ?_
      simp only [nV, go_sem]
      refine t_call_intro (hB) ?_
      simp only [nD, hd, go_sem]
      refine t_call_intro (hR) ?_
      simp only [nR, go_sem]
      refine t_call_intro (hW) ?_
      simp only [nW, go_sem]
      refine t_call_intro (hE) ?_
      simp only [nE, z8, go_sem]
      simp only [aresult, ares, go_sem]
    · have er : decReqN L at_ = .tup [.agg reqZ, .a (.int .i64 0), .a (.int .i64 5)] := by
        unfold decReqN; rw [if_neg (by simpa using zW), if_neg (by omega), if_pos hr]
      have nE : (reqE (rqX L at_) != 0) = true := by simpa using hr
      rw [er]
      refine den_of_body k_ref36_DecodeRequest ⟨rfl, Nat.le_of_ble_eq_true rfl, thaw_intro ?_⟩
      unfold c_ref36_DecodeRequest
      simp only [go_sem]
      refine t_call_intro (hH) ?_
      simp only [z00, go_sem]
      refine t_call_intro (hA) ?_
      simp only [nV, go_sem]
      refine t_call_intro (hB) ?_
      simp only [nD, hd, go_sem]
      refine t_call_intro (hR) ?_
      simp only [nR, go_sem]
      refine t_call_intro (hW) ?_
      simp only [nW, go_sem]
      refine t_call_intro (hE) ?_
      simp only [nE, reqZ, go_sem]
      simp only [aresult, ares, go_sem]
  | false =>
    rw [hd] at hB
    have hd0 : ¬ (rqD L at_).1 = true := by rw [hd]; simp
    have eR : rqR L at_ = ([], (rqD L at_).2.1, (rqD L at_).2.2) := by unfold rqR rdFt; rw [if_neg hd0]
    have eW : rqW L at_ = ([], (rqR L at_).2.1, (rqR L at_).2.2) := by unfold rqW rdFt; rw [if_neg hd0]
    have eW2 : (rqD L at_).2.2 = (rqW L at_).2.2 := by rw [eW, eR]
    have eW1 : (rqD L at_).2.1 = (rqW L at_).2.1 := by rw [eW, eR]
    have zW : (rqW L at_).2.2 = 0 := by rw [← eW2]; exact zD
    rw [eW1] at hB
    by_cases hs : smallR L at_ = true
    rotate_left
    · have hlim : 32 < (rqU1 L at_).1 ∨ 1099511627776 < (rqU2 L at_).1 := by
        simp only [smallR, Bool.and_eq_true, decide_eq_true_eq] at hs; omega
      have er : decReqN L at_ = .tup [.agg reqZ, .a (.int .i64 0), .a (.int .i64 5)] := by unfold decReqN; rw [if_neg (by simpa using zW), if_pos hlim]
      rw [if_neg hs] at hH
      rw [er]
      refine den_of_body k_ref36_DecodeRequest ⟨rfl, Nat.le_of_ble_eq_true rfl, thaw_intro ?_⟩
      unfold c_ref36_DecodeRequest
      simp only [go_sem]
      refine t_call_intro (hH) ?_
      simp only [z00, go_sem]
      refine t_call_intro (hA) ?_
      simp only [nV, go_sem]
      refine t_call_intro (hB) ?_
      simp only [nD, hd, go_sem]
      simp only [reqZ, go_sem]
      simp only [aresult, ares, go_sem]
    have hl1 : (rqU1 L at_).1 ≤ 32 := by simp only [smallR, Bool.and_eq_true, decide_eq_true_eq] at hs; exact hs.1
    have hl2 : (rqU2 L at_).1 ≤ 1099511627776 := by simp only [smallR, Bool.and_eq_true, decide_eq_true_eq] at hs; exact hs.2
    rw [if_pos hs] at hH
    have hE : PDen Try.prog 38 [.agg [.int .i64 (rqU1 L at_).1, .int .i64 (rqU2 L at_).1, .str ⟨(rqP L at_).1.toArray⟩, .slice 3 ((rqV L at_).1.map Vl.row), .bool false, .bool false, .nils, .nils]] (.a (.int .i64 (reqE (rqX L at_)))) := by
      have h := rreqE_den (rqX L at_) (rqX_fit L at_ hlen)
      refine h.args ⟨VLe.agg ?_, trivial⟩
      have e1 : (rqX L at_).rd = [] := congrArg Prod.fst eR
      have e2 : (rqX L at_).wt = [] := congrArg Prod.fst eW
      have e3 : (rqX L at_).dc = false := hd
      unfold Req.row
      rw [e1, e2, e3]
      exact ⟨RLe.refl _, RLe.refl _, RLe.refl _, RLe.refl _, RLe.refl _, RLe.refl _, RLe.nils 1, RLe.nils 1, trivial⟩
    by_cases hr : reqE (rqX L at_) = 0
    · have er : decReqN L at_ = .tup [.agg (rowN (rqX L at_)), .a (.int .i64 (rqW L at_).2.1), .a (.int .i64 0)] := by
        unfold decReqN; rw [if_neg (by simpa using zW), if_neg (by omega), if_neg (by simpa using hr)]
      have eN : rowN (rqX L at_) = [.int .i64 (rqU1 L at_).1, .int .i64 (rqU2 L at_).1, .str ⟨(rqP L at_).1.toArray⟩, .slice 3 ((rqV L at_).1.map Vl.row), .bool false, .bool false, .nils, .nils] := by
        unfold rowN
        rw [if_neg (show ¬ (rqX L at_).dc = true from hd0), if_neg (show ¬ (rqX L at_).dc = true from hd0)]
        show [_, _, _, _, Atom.bool (rqD L at_).1, _, _, _] = _
        rw [hd]
        rfl
      have nE : (reqE (rqX L at_) != 0) = false := by simp [hr]
      rw [er, eN]
      refine den_of_body k_ref36_DecodeRequest ⟨rfl, Nat.le_of_ble_eq_true rfl, thaw_intro ?_⟩
      unfold c_ref36_DecodeRequest
      simp only [go_sem]
      refine t_call_intro (hH) ?_
      simp only [z00, go_sem]
      refine t_call_intro (hA) ?_
      simp only [nV, go_sem]
      refine t_call_intro (hB) ?_
      simp only [nD, hd, go_sem]
      refine t_call_intro (hE) ?_
      simp only [nE, z8, go_sem]
      simp only [aresult, ares, go_sem]
    · have er : decReqN L at_ = .tup [.agg reqZ, .a (.int .i64 0), .a (.int .i64 5)] := by
        unfold decReqN; rw [if_neg (by simpa using zW), if_neg (by omega), if_pos hr]
      have nE : (reqE (rqX L at_) != 0) = true := by simpa using hr
      rw [er]
      refine den_of_body k_ref36_DecodeRequest ⟨rfl, Nat.le_of_ble_eq_true rfl, thaw_intro ?_⟩
      unfold c_ref36_DecodeRequest
      simp only [go_sem]
      refine t_call_intro (hH) ?_
      simp only [z00, go_sem]
      refine t_call_intro (hA) ?_
      simp only [nV, go_sem]
      refine t_call_intro (hB) ?_
      simp only [nD, hd, go_sem]
      refine t_call_intro (hE) ?_
      simp only [nE, reqZ, go_sem]
      simp only [aresult, ares, go_sem]
theorem rdecReq_den (s : ByteArray) (at_ : Int) (hs0 : s.size ≤ 1073741824) : PDen Try.prog 96 [.a (.str s), .a (.int .i64 at_)] (decReqV (decReq s.data.toList at_)) := (rdecReq_N s at_ hs0).le (decReqN_le _ _)

end Go.Proofs.Ytpnihinmlmoogaa

/- The decoding of the reference: lists of requests. -/
namespace Go.Proofs.Ytpnihinmlmoogaa
open Go Ab Go.RowKit
attribute [local irreducible] awp aops aop asoft aeff aloop acall acallI acallT
attribute [local go_sem] Vl.row sRow

set_option maxRecDepth 100000 in
set_option maxHeartbeats 4000000 in
theorem rdecReqs_N (s : ByteArray) (at_ : Int) (hs0 : s.size ≤ 1073741824) : PDen Try.prog 71 [.a (.str s), .a (.int .i64 at_)] (decReqsN s.data.toList at_) := by
  have hC := rtakecount_den s at_ 64 hs0 (by omega)
  have hD := fun a' => rdecReq_den s a' hs0
  generalize hL : s.data.toList = L at hC hD ⊢
  have hn := rqC64_le L at_
  have eC : takeCV L at_ 64 = .tup [.a (.int .i64 (rqC64 L at_).1), .a (.int .i64 (rqC64 L at_).2.1), .a (.int .i64 (rqC64 L at_).2.2)] := rfl
  rw [eC] at hC
  unfold decReqsN
  generalize rqC64 L at_ = C at hC hn ⊢
  obtain ⟨n, a1, e1⟩ := C
  simp only [] at hC hn ⊢
  refine den_of_body k_ref36_Decode ⟨rfl, Nat.le_of_ble_eq_true rfl, thaw_intro ?_⟩
  unfold c_ref36_Decode
  simp only [go_sem]
  refine t_call_intro (hC) ?_
  by_cases he1 : e1 = 0
  rotate_left
  · have n1 : (e1 != 0) = true := by simpa using he1
    rw [if_pos he1]
    simp only [n1, go_sem]
    simp only [aresult, ares, go_sem]
  have n1 : (e1 != 0) = false := by simpa using he1
  rw [if_neg (by simpa using he1)]
  simp only [n1, go_sem]
  refine t_loopO_intro [.slot 9 59 8] (fun k : Nat => k ≤ n ∧ ((rsSt L a1 k).2.2 = 0 ∧ (rsSt L a1 k).1.length = k)) (fun k => n - k) 0 [1, 4, 5, 6, 9, 10, 11, 12, 13, 24, 25, 26, 27, 28, 29, 30, 31, 32, 33, 34, 35, 36, 37, 38, 39, 40, 41, 42, 43] (fun k => [(1, .a (.int .i64 (rsSt L a1 k).2.1)), (9, .own 0), (14, .any), (17, .any), (10, .a (.int .i64 k))]) (fun k => []) (fun k => [⟨59, 8, (rsSt L a1 k).1.map Req.row, false⟩]) ⟨by omega, by exact ⟨rfl, rfl⟩⟩ (by simp) (by first | (simp; done) | simp [rsSt]) (by first | (simp; done) | simp [rsSt]) (by first | (simp; done) | simp [rsSt]) (fun k => by first | (simp; done) | simp [rsSt]) (fun k => by first | (simp; done) | simp [rsSt]) (fun k => by first | (simp; done) | simp [rsSt]) ?_
  intro k hk0 st_ hst
  have hk : k ≤ n := hk0.1
  have hall := hk0.2
  clear hk0
  simp only [go_sem] at hst
  subst hst
  by_cases hlt : k < n
  · have h1 : (k : Int) < (n : Int) := by omega
    have ew := wrap1 k n hlt (by omega)
    obtain ⟨g1, g2⟩ := hall
    have es := rsSt_ok L a1 k g1
    have hd := hD (rsSt L a1 k).2.1
    unfold decReqV at hd
    rw [rowr] at hd
    generalize hx : decReq L (rsSt L a1 k).2.1 = X at hd es
    obtain ⟨x, a2, e2⟩ := X
    simp only [] at hd es
    simp only [h1, go_sem]
    refine t_call_intro (hd) ?_
    by_cases he2 : e2 = 0
    · have n2 : (e2 != 0) = false := by simpa using he2
      have eo : (rsSt L a1 k).1.map Req.row ++ [[.int .i64 x.cl, .int .i64 x.sq, .str x.pr, .slice 3 (x.args.map Vl.row), .bool x.dc, .bool x.al, .slice 1 (x.rd.map sRow), .slice 1 (x.wt.map sRow)]] = (rsSt L a1 (k + 1)).1.map Req.row := by rw [es]; simp [rowr]
      have ea : (rsSt L a1 (k + 1)).2.1 = a2 := by rw [es]
      simp only [n2, go_sem]
      refine t_gate_intro (by first | omega | (simp; omega)) ?_
      simp only [eo, ew, go_sem]
      refine t_roundO (k + 1) ⟨by omega, ⟨by rw [es]; exact he2, by rw [es]; simp [g2]⟩⟩ (by omega) (by first | (simp; done) | simp [ea]) (by first | (simp; done) | simp [ea]) (by first | (simp; done) | simp [ea]) (by first | (simp; done) | simp [ea]) (by first | (simp; done) | simp [ea])
    · have n2 : (e2 != 0) = true := by simpa using he2
      have ef : rsSt L a1 n = rsSt L a1 (k + 1) := rsSt_err L a1 (k + 1) (by rw [es]; exact he2) n (by omega)
      have e3 : (rsSt L a1 n).2.2 = e2 := by rw [ef, es]
      rw [if_pos (by rw [e3]; exact he2), e3]
      simp only [n2, go_sem]
      simp only [aresult, ares, go_sem]
  · have h1 : ¬ (k : Int) < (n : Int) := by omega
    have hke : k = n := by omega
    subst hke
    rw [if_neg (by simp [hall.1])]
    simp only [h1, go_sem]
    simp only [aresult, ares, go_sem]
theorem rdecReqs_den (s : ByteArray) (at_ : Int) (hs0 : s.size ≤ 1073741824) : PDen Try.prog 71 [.a (.str s), .a (.int .i64 at_)] (decReqsV (decReqs s.data.toList at_)) := (rdecReqs_N s at_ hs0).le (decReqsN_le _ _)
end Go.Proofs.Ytpnihinmlmoogaa

/- The chapter's examples: works; short, few. -/
namespace Go.Proofs.Ytpnihinmlmoogaa
open Go Ab Go.RowKit
attribute [local irreducible] awp aops aop asoft aeff aloop acall acallI acallT
attribute [local go_sem] Vl.row sRow

def exS : ByteArray := ⟨#[2, 1, 3, 97, 100, 100, 1, 1, 10, 0]⟩
def exR : Req := ⟨2, 1, ⟨#[97, 100, 100]⟩, [⟨1, 5, ⟨#[]⟩⟩], false, false, [], []⟩
def exT : ByteArray := ⟨#[2, 2, 1, 3, 97, 100, 100, 1, 1, 10, 0, 2, 1, 3, 97, 100, 100, 1, 1, 10, 0]⟩
def rc (c : Int) : Req := ⟨c, 0, ⟨#[]⟩, [], false, false, [], []⟩
theorem ex_dec : decReq exS.data.toList 0 = (exR, 10, 0) := by kernel_rfl
theorem ex_merge : mergeR [[rc 1, rc 2, rc 3], [rc 9]] = [rc 1, rc 9, rc 2, rc 3] := by kernel_rfl
theorem ex_encR : reqB exR = exS := by kernel_rfl
theorem ex_E : reqE exR = 0 := by kernel_rfl
theorem ex_E0 : reqE (rc 0) = 1 := by kernel_rfl
theorem ex_enc : encReqs [exR, exR] = exT := by kernel_rfl
theorem ex_decs : decReqs exT.data.toList 0 = ([exR, exR], 21, 0) := by kernel_rfl
def exRaw : List Atom := [.int .i64 2, .int .i64 1, .str ⟨#[97, 100, 100]⟩, .slice 3 [[.int .i64 1, .int .i64 5, .str ⟨#[]⟩]], .bool false, .bool false, .nils, .nils]
def exRow : List Atom := [.int .i64 2, .int .i64 1, .str ⟨#[97, 100, 100]⟩, .slice 3 [[.int .i64 1, .int .i64 5, .str ⟨#[]⟩]], .bool false, .bool false, .slice 1 [], .slice 1 []]
def rcRaw (c : Int) : List Atom := [.int .i64 c, .int .i64 0, .str ⟨#[]⟩, .nils, .bool false, .bool false, .nils, .nils]
def rcRow (c : Int) : List Atom := [.int .i64 c, .int .i64 0, .str ⟨#[]⟩, .slice 3 [], .bool false, .bool false, .slice 1 [], .slice 1 []]
theorem exRow_eq : exR.row = exRow := rfl
theorem rcRow_eq (c : Int) : (rc c).row = rcRow c := rfl
theorem exRaw_le : RLs exRaw exR.row := ⟨RLe.refl _, RLe.refl _, RLe.refl _, RLe.refl _, RLe.refl _, RLe.refl _, RLe.nils 1, RLe.nils 1, trivial⟩
theorem rcRaw_le (c : Int) : RLs (rcRaw c) (rc c).row := ⟨RLe.refl _, RLe.refl _, RLe.refl _, RLe.nils 3, RLe.refl _, RLe.refl _, RLe.nils 1, RLe.nils 1, trivial⟩
theorem exR_fit : exR.fit := by
  refine ⟨by decide, by decide, fun v hv => ?_, ⟨by decide, fun s h => by cases h⟩, ⟨by decide, fun s h => by cases h⟩, fun v hv => ?_⟩
  · have : v = ⟨1, 5, ⟨#[]⟩⟩ := by simpa [exR] using hv
    subst this; decide
  · have : v = ⟨1, 5, ⟨#[]⟩⟩ := by simpa [exR] using hv
    subst this; rw [Cw.m63]; decide
theorem rc_fit (c : Int) : (rc c).fit := ⟨Nat.zero_le _, Nat.zero_le _, (fun v hv => by cases hv), ⟨Nat.zero_le _, (fun s h => by cases h)⟩, ⟨Nat.zero_le _, (fun s h => by cases h)⟩, (fun v hv => by cases hv)⟩
theorem rc_bulk (c : Int) : (rc c).bulk := ⟨Nat.zero_le _, Nat.zero_le _, Nat.zero_le _⟩
theorem ex_Eqq : reqEq exR exR = true := reqEq_refl _
end Go.Proofs.Ytpnihinmlmoogaa

/- Chapter 36: arguments; few, short. -/
namespace Go.Proofs.Ytpnihinmlmoogaa
open Go Ab Go.RowKit
set_option maxRecDepth 100000
attribute [local irreducible] awp aops aop asoft aeff aloop acall acallI acallT
attribute [local go_sem] Vl.row sRow

theorem un_string {n : Nat} {xs : List Atom} (h : Has Try.prog (n + 1) 9 xs) : ∃ s : ByteArray, xs = [.str s] ∧ s.size ≤ reachBytes := by
  unfold Has at h; rw [Try.underlying9] at h; exact h
theorem un_string1 {n : Nat} {x : Atom} (h : Has Try.prog (n + 1) 9 [x]) : ∃ s : ByteArray, x = .str s := by
  obtain ⟨s, e, _⟩ := un_string h
  cases e
  exact ⟨s, rfl⟩
theorem un_bool {n : Nat} {xs : List Atom} (h : Has Try.prog (n + 1) 4 xs) : ∃ b, xs = [.bool b] := by
  unfold Has at h; rw [Try.underlying4] at h; exact h
theorem un_i64 {n : Nat} {xs : List Atom} (h : Has Try.prog (n + 1) 2 xs) : ∃ m, xs = [.int .i64 m] ∧ (Lit.int IntKind.i64 m).wf = true := by
  unfold Has at h; rw [Try.underlying2] at h; exact h
theorem un_int {n : Nat} {xs : List Atom} (h : Has Try.prog (n + 1) 3 xs) : ∃ m, xs = [.int .i64 m] := by
  unfold Has at h; rw [Try.underlying3] at h; obtain ⟨m, h, _⟩ := h; exact ⟨m, h⟩
theorem wf_in {m : Int} (h : (Lit.int IntKind.i64 m).wf = true) : -Cw.M63 ≤ m ∧ m < Cw.M63 := by
  simp only [Lit.wf, Bool.and_eq_true, decide_eq_true_eq] at h
  have ma : IntKind.max .i64 = 9223372036854775807 := by decide
  have mi : IntKind.min .i64 = -9223372036854775808 := by decide
  rw [ma, mi] at h
  rw [Cw.m63]; omega
theorem un_value {n : Nat} {xs : List Atom} (h : Has Try.prog (n + 2) 80 xs) : ∃ v : Vl, xs = v.row ∧ v.s.size ≤ 9223372036854775807 ∧ -Cw.M63 ≤ v.n ∧ v.n < Cw.M63 := by
  unfold Has at h; rw [Try.underlying80] at h
  obtain ⟨p1, r1, rfl, h1, p2, r2, rfl, h2, p3, r3, rfl, h3, rfl⟩ := h
  obtain ⟨a, rfl⟩ := un_int h1
  obtain ⟨b, rfl, hb⟩ := un_i64 h2
  obtain ⟨c, rfl, hc⟩ := un_string h3
  exact ⟨⟨a, b, c⟩, rfl, by unfold reachBytes at hc; simp only; omega, wf_in hb⟩
theorem un_rows {α : Type} {f : α → List Atom} {Q : α → Prop} : ∀ {rows : List (List Atom)}, (∀ r ∈ rows, ∃ a, r = f a ∧ Q a) → ∃ l : List α, rows = l.map f ∧ ∀ a ∈ l, Q a
  | [], _ => ⟨[], rfl, fun a h => by cases h⟩
  | r :: rows, h => by
    obtain ⟨a, rfl, ha⟩ := h r (by simp)
    obtain ⟨l, rfl, hl⟩ := un_rows (rows := rows) fun r hr => h r (by simp [hr])
    exact ⟨a :: l, rfl, fun b hb => by
      rcases List.mem_cons.1 hb with rfl | hb
      · exact ha
      · exact hl b hb⟩
theorem cells_val : Try.prog.cellsOf 80 = 3 := by kernel_rfl
theorem bytes_val : Try.prog.bytesOf 80 = 32 := by kernel_rfl
theorem cells_str : Try.prog.cellsOf 9 = 1 := by kernel_rfl
theorem bytes_str : Try.prog.bytesOf 9 = 16 := by kernel_rfl
theorem cells_req : Try.prog.cellsOf 59 = 8 := by kernel_rfl
theorem bytes_req : Try.prog.bytesOf 59 = 120 := by kernel_rfl
theorem cells_reqs : Try.prog.cellsOf 26 = 1 := by kernel_rfl
theorem bytes_reqs : Try.prog.bytesOf 26 = 24 := by kernel_rfl
theorem un_vals {n : Nat} {xs : List Atom} (h : Has Try.prog (n + 3) 54 xs) : ∃ l : List Vl, xs = [.slice 3 (l.map Vl.row)] ∧ l.length * 32 ≤ 140737488351232 ∧ ∀ v ∈ l, v.s.size ≤ 9223372036854775807 ∧ -Cw.M63 ≤ v.n ∧ v.n < Cw.M63 := by
  unfold Has at h; rw [Try.underlying54] at h
  obtain ⟨rows, rfl, hn, hb, hr⟩ := h
  obtain ⟨l, rfl, hl⟩ := un_rows fun r hrr => un_value (hr r hrr)
  rw [List.length_map] at hn hb
  rw [bytes_val] at hb
  unfold reachBytes at hb
  exact ⟨l, by rw [cells_val], by omega, hl⟩
theorem un_strs {n : Nat} {xs : List Atom} (h : Has Try.prog (n + 2) 55 xs) : ∃ l : List ByteArray, xs = [.slice 1 (l.map sRow)] ∧ l.length * 16 ≤ 140737488351232 ∧ ∀ s ∈ l, s.size ≤ 9223372036854775807 := by
  unfold Has at h; rw [Try.underlying55] at h
  obtain ⟨rows, rfl, hn, hb, hr⟩ := h
  obtain ⟨l, rfl, hl⟩ := un_rows (f := sRow) (Q := fun s => s.size ≤ 9223372036854775807) fun r hrr => by
    obtain ⟨s, e, hs⟩ := un_string (hr r hrr)
    exact ⟨s, e, by unfold reachBytes at hs; omega⟩
  rw [List.length_map] at hn hb
  rw [bytes_str] at hb
  unfold reachBytes at hb
  exact ⟨l, by rw [cells_str], by omega, hl⟩
theorem un_fp {n : Nat} {xs : List Atom} (h : Has Try.prog (n + 3) 57 xs) : ∃ al rd wt, xs = fpRow al rd wt ∧ (rd.length * 16 ≤ 140737488351232 ∧ ∀ s ∈ rd, s.size ≤ 9223372036854775807) ∧ (wt.length * 16 ≤ 140737488351232 ∧ ∀ s ∈ wt, s.size ≤ 9223372036854775807) := by
  unfold Has at h; rw [Try.underlying57] at h
  obtain ⟨p1, r1, rfl, h1, p2, r2, rfl, h2, p3, r3, rfl, h3, rfl⟩ := h
  obtain ⟨a, rfl⟩ := un_bool h1
  obtain ⟨b, rfl, hb⟩ := un_strs h2
  obtain ⟨c, rfl, hc⟩ := un_strs h3
  exact ⟨a, b, c, rfl, hb, hc⟩
theorem un_req {n : Nat} {xs : List Atom} (h : Has Try.prog (n + 4) 59 xs) : ∃ r : Req, xs = r.row ∧ r.fit ∧ r.bulk := by
  unfold Has at h; rw [Try.underlying59] at h
  obtain ⟨p1, r1, rfl, h1, p2, r2, rfl, h2, p3, r3, rfl, h3, p4, r4, rfl, h4, p5, r5, rfl, h5, p6, r6, rfl, h6, rfl⟩ := h
  obtain ⟨a, rfl⟩ := un_int h1
  obtain ⟨b, rfl, _⟩ := un_i64 h2
  obtain ⟨c, rfl, hc⟩ := un_string h3
  obtain ⟨d, rfl, hd⟩ := un_vals h4
  obtain ⟨e, rfl⟩ := un_bool h5
  obtain ⟨al, rd, wt, rfl, hr, hw⟩ := un_fp h6
  unfold reachBytes at hc
  exact ⟨⟨a, b, c, d, e, al, rd, wt⟩, rfl, ⟨by simp only; omega, by have := hd.1; simp only; omega, fun v hv => (hd.2 v hv).1, ⟨by have := hr.1; simp only; omega, hr.2⟩, ⟨by have := hw.1; simp only; omega, hw.2⟩, fun v hv => (hd.2 v hv).2⟩, ⟨hd.1, hr.1, hw.1⟩⟩
structure Reqs.fit (l : List Req) : Prop where
  len : l.length * 120 ≤ 140737488351232
  all : ∀ r ∈ l, r.fit
  blk : ∀ r ∈ l, r.bulk
theorem un_reqs {n : Nat} {x : Atom} (h : Has Try.prog (n + 5) 26 [x]) : ∃ l : List Req, x = .slice 8 (l.map Req.row) ∧ Reqs.fit l := by
  unfold Has at h; rw [Try.underlying26] at h
  obtain ⟨rows, he, hn, hb, hr⟩ := h
  obtain ⟨l, rfl, hl⟩ := un_rows fun r hrr => un_req (hr r hrr)
  rw [List.length_map] at hn hb
  rw [bytes_req] at hb
  unfold reachBytes at hb
  cases he
  exact ⟨l, by rw [cells_req], ⟨by omega, fun r hr => (hl r hr).1, fun r hr => (hl r hr).2⟩⟩
theorem un_reqs' {n : Nat} {xs : List Atom} (h : Has Try.prog (n + 5) 26 xs) : ∃ l : List Req, xs = lsRow l ∧ Reqs.fit l := by
  have h0 := h
  unfold Has at h; rw [Try.underlying26] at h
  obtain ⟨rows, rfl, _⟩ := h
  obtain ⟨l, e, hl⟩ := un_reqs h0
  exact ⟨l, by rw [e]; rfl, hl⟩
def fewL (l : List Req) : Bool := decide (l.length ≤ 70) && l.all fewR
def len40 (l : List Req) : Bool := decide (l.length ≤ 40)
def shortL (ls : List (List Req)) : Bool := decide (ls.length ≤ 20) && ls.all len40
end Go.Proofs.Ytpnihinmlmoogaa

/- Chapter 36: five laws. -/
namespace Go.Proofs.Ytpnihinmlmoogaa
open Go Ab Go.RowKit
set_option maxRecDepth 100000
attribute [local irreducible] awp aops aop asoft aeff aloop acall acallI acallT
attribute [local go_sem] Vl.row sRow

/-! What is decoded -/
theorem decReq_fit (l : List UInt8) (a : Int) (hl : l.length ≤ 1073741824) : (decReq l a).1.fit := by
  have h0 : req0.fit := rc_fit 0
  unfold decReq
  split
  · exact h0
  · split
    · exact h0
    · split
      · exact h0
      · exact rqX_fit l a hl
theorem rsSt_fit (l : List UInt8) (a : Int) (hl : l.length ≤ 1073741824) : ∀ k, ∀ r ∈ (rsSt l a k).1, r.fit
  | 0, r, h => by cases h
  | k + 1, r, h => by
    by_cases he : (rsSt l a k).2.2 = 0
    · rw [rsSt_ok l a k he] at h
      rcases List.mem_append.1 h with h | h
      · exact rsSt_fit l a hl k r h
      · rw [List.mem_singleton.1 h]; exact decReq_fit l _ hl
    · have e := rsSt_err l a k he (k + 1) (by omega)
      rw [e] at h
      exact rsSt_fit l a hl k r h
theorem rsSt_len (l : List UInt8) (a : Int) : ∀ k, (rsSt l a k).1.length ≤ k
  | 0 => Nat.le_refl _
  | k + 1 => by
    have ih := rsSt_len l a k
    by_cases he : (rsSt l a k).2.2 = 0
    · rw [rsSt_ok l a k he]; simp; omega
    · rw [rsSt_err l a k he (k + 1) (by omega)]; omega
theorem decReqs_fit (l : List UInt8) (a : Int) (hl : l.length ≤ 1073741824) : ∀ r ∈ (decReqs l a).1, r.fit := by
  unfold decReqs
  split
  · intro r h; cases h
  · split
    · intro r h; cases h
    · exact rsSt_fit l _ hl _
theorem decReqs_len (l : List UInt8) (a : Int) : (decReqs l a).1.length ≤ 64 := by
  have h64 := rqC64_le l a
  have hk := rsSt_len l (Cw.takeC l a 64).2.1 (Cw.takeC l a 64).1
  have h64 : ((Cw.takeC l a 64).1 : Int) ≤ 64 := h64
  unfold decReqs
  split
  · exact Nat.zero_le _
  · split
    · exact Nat.zero_le _
    · omega
/-! Merging -/
theorem mrow_mem (ls : List (List Req)) (i k : Nat) (r : Req) (h : r ∈ mrow ls i k) : ∃ l ∈ ls, r ∈ l := by
  unfold mrow at h
  obtain ⟨l, hl, hr⟩ := List.mem_filterMap.1 h
  exact ⟨l, List.mem_of_mem_take hl, List.mem_of_getElem? hr⟩
theorem mcol_mem (ls : List (List Req)) (r : Req) : ∀ i, r ∈ mcol ls i → ∃ l ∈ ls, r ∈ l
  | 0, h => by cases h
  | i + 1, h => by
    rcases List.mem_append.1 h with h | h
    · exact mcol_mem ls r i h
    · exact mrow_mem ls i _ r h
theorem merge_mem (ls : List (List Req)) (r : Req) (h : r ∈ mergeR ls) : ∃ l ∈ ls, r ∈ l := mcol_mem ls r _ h
theorem short_of (ls : List (List Req)) (h : shortL ls = true) : ls.length ≤ 20 ∧ ∀ l ∈ ls, l.length ≤ 40 := by
  unfold shortL at h
  simp only [Bool.and_eq_true, decide_eq_true_eq, List.all_eq_true] at h
  exact ⟨h.1, fun l hl => of_decide_eq_true (h.2 l hl)⟩
theorem merge_len (ls : List (List Req)) (h1 : ls.length ≤ 20) (h2 : ∀ l ∈ ls, l.length ≤ 40) : (mergeR ls).length ≤ 800 := by
  have h3 := mcol_len ls (most ls ls.length)
  have h4 := most_le ls 40 h2 ls.length
  have h5 : most ls ls.length * ls.length ≤ 40 * 20 := Nat.mul_le_mul h4 h1
  unfold mergeR; omega
theorem mcol_one (l : List Req) : ∀ i, i ≤ l.length → mcol [l] i = l.take i
  | 0, _ => by simp [mcol]
  | i + 1, h => by
    have hi : i < l.length := by omega
    rw [mcol, mcol_one l i (by omega), List.take_succ_eq_append_getElem hi]
    simp [mrow, List.getElem?_eq_getElem hi]
theorem merge_one (l : List Req) : mergeR [l] = l := by
  have : most [l] [l].length = l.length := by simp [most]
  unfold mergeR
  rw [this, mcol_one l _ (Nat.le_refl _), List.take_length]
end Go.Proofs.Ytpnihinmlmoogaa

/- The codec of requests, plainly: what is encoded is decoded, what is decoded was encoded; no program. -/
namespace Go.Proofs.Ytpnihinmlmoogaa
open Go Ab Go.RowKit

theorem takeU_shift (l : List UInt8) (a : Nat) (h : a ≤ l.length) : Cw.takeU l a = match Cw.takeU (l.drop a) 0 with
    | (u, n, e) => (u, if e = 0 then n + a else n, e) := by
  rw [Cw.takeU_in h, show (0 : Int) = ((0 : Nat) : Int) from rfl, Cw.takeU_in (Nat.zero_le _), List.drop_zero]
  rcases Cw.vrun_shape (l.drop a) 0 0 (by omega) (by decide) with ⟨u, n, e, h1, h2, h3, h4⟩ | e | e
  · rw [e]; simp; omega
  · rw [e]; simp
  · rw [e]; simp
theorem takeT_shift (l : List UInt8) (a : Nat) (h : a ≤ l.length) (m : Int) : Cw.takeT l a m = match Cw.takeT (l.drop a) 0 m with
    | (u, n, e) => (u, if e = 0 then n + a else n, e) := by
  unfold Cw.takeT Cw.takeC
  rw [takeU_shift l a h]
  rcases Cw.takeU_cases (l.drop a) 0 with ⟨u, n, e1, h1, h2, h3, h4, h5⟩ | ⟨e, e1, h2⟩
  · rw [e1]
    simp only [ne_eq, not_true_eq_false, if_false, if_true, List.length_drop] at h5 ⊢
    obtain ⟨k, rfl⟩ := Int.eq_ofNat_of_zero_le (show 0 ≤ n by omega)
    by_cases hl : m < 0 ∨ m < u
    · simp only [if_pos hl]; simp
    · simp only [if_neg hl]
      by_cases ht : ((l.length - a : Nat) : Int) - k < u
      · rw [if_pos ht, if_pos (show ((l.length : Nat) : Int) - ((k : Int) + (a : Int)) < (u : Int) by omega)]; simp
      · rw [if_neg ht, if_neg (show ¬ ((l.length : Nat) : Int) - ((k : Int) + (a : Int)) < (u : Int) by omega)]
        simp only [if_true, not_true_eq_false, if_false, List.drop_drop]
        refine Prod.ext ?_ (Prod.ext ?_ rfl)
        · show List.take u (List.drop ((k : Int) + (a : Int)).toNat l) = List.take u (List.drop (a + (k : Int).toNat) l)
          rw [show ((k : Int) + (a : Int)).toNat = a + (k : Int).toNat by omega]
        · show (k : Int) + a + u = k + u + a
          omega
  · rw [e1]
    have : e ≠ 0 := by omega
    simp [this]
theorem takeU_vint (u : Nat) (r : List UInt8) (hu : (u : Int) < Cw.M64) : Cw.takeU (Cw.vint u ++ r) 0 = (u, ((Cw.vint u).length : Int), 0) := by
  rw [Cw.m64] at hu
  rw [show (0 : Int) = ((0 : Nat) : Int) from rfl, Cw.takeU_in (Nat.zero_le _), List.drop_zero, Cw.vrun_vint r u 0 0 (by omega) (.inl rfl) (by omega)]
  simp
theorem takeC_text (l r : List UInt8) (m : Int) (hl : (l.length : Int) < Cw.M64) : Cw.takeC (Cw.text l ++ r) 0 m = if m < l.length then (0, 0, 2) else (l.length, ((Cw.vint l.length).length : Int), 0) := by
  unfold Cw.takeC Cw.text
  rw [List.append_assoc, takeU_vint _ _ hl]
  simp only [ne_eq, not_true_eq_false, if_false, List.length_append]
  by_cases h : m < l.length
  · rw [if_pos (.inr h), if_pos h]
  · rw [if_neg (by omega), if_neg h, if_neg (by omega)]
theorem takeT_text (l r : List UInt8) (m : Int) (hl : (l.length : Int) < Cw.M64) : Cw.takeT (Cw.text l ++ r) 0 m = if m < l.length then ([], 0, 2) else (l, ((Cw.text l).length : Int), 0) := by
  unfold Cw.takeT
  rw [takeC_text l r m hl]
  by_cases h : m < l.length
  · simp only [if_pos h]; rfl
  · simp only [if_neg h, ne_eq, not_true_eq_false, if_false, Int.toNat_natCast]
    unfold Cw.text
    simp
theorem takeU_at (p r : List UInt8) (u : Nat) (hu : (u : Int) < Cw.M64) : Cw.takeU (p ++ (Cw.vint u ++ r)) (p.length : Nat) = (u, (p.length : Int) + ((Cw.vint u).length : Int), 0) := by
  rw [takeU_shift _ _ (by simp), List.drop_left, takeU_vint u r hu]
  simp; omega
theorem takeB_at (p r : List UInt8) (b : Bool) : takeB (p ++ (Cw.boolB b ++ r)) (p.length : Nat) = (b, (p.length : Int) + 1, 0) := by
  unfold takeB
  rw [if_neg (by simp; omega), Int.toNat_natCast, List.drop_left]
  cases b <;> rfl
theorem takeT_at (p r l : List UInt8) (m : Int) (hl : (l.length : Int) < Cw.M64) (hm : (l.length : Int) ≤ m) : Cw.takeT (p ++ (Cw.text l ++ r)) (p.length : Nat) m = (l, (p.length : Int) + ((Cw.text l).length : Int), 0) := by
  rw [takeT_shift _ _ (by simp), List.drop_left, takeT_text l r m hl, if_neg (by omega)]
  simp; omega
theorem takeU_is {l : List UInt8} {u : Nat} {n : Int} (h : Cw.takeU l 0 = (u, n, 0)) : 1 ≤ n ∧ n ≤ l.length ∧ Cw.vint u = l.take n.toNat := by
  rw [show (0 : Int) = ((0 : Nat) : Int) from rfl, Cw.takeU_in (Nat.zero_le _), List.drop_zero] at h
  rcases Cw.vrun_shape l 0 0 (by omega) (by decide) with ⟨u', n', e, h1, h2, h3, h4⟩ | e | e
  · rw [e] at h
    simp only [Prod.mk.injEq] at h
    obtain ⟨rfl, hn, -⟩ := h
    obtain ⟨v, e1, e2, e3, e4, e5⟩ := Cw.vrun_is_vint l 0 u' n' (by omega) e
    have hv : u' = v := by omega
    subst hv
    have : n.toNat = n' - 0 := by omega
    rw [this]
    exact ⟨by omega, by omega, e3⟩
  · rw [e] at h; simp at h
  · rw [e] at h; simp at h
theorem takeU_lt {l : List UInt8} {a : Int} {u : Nat} {n e : Int} (h : Cw.takeU l a = (u, n, e)) : (u : Int) < Cw.M64 := by
  rcases Cw.takeU_cases l a with ⟨u1, n1, e1, h1, h2, h3, h4, h5⟩ | ⟨e1, h1, h2⟩
  · rw [e1] at h; simp only [Prod.mk.injEq] at h; rw [← h.1]; exact h1
  · rw [h1] at h; simp only [Prod.mk.injEq] at h; rw [← h.1, Cw.m64]; omega
theorem takeT_is {l t : List UInt8} {m n : Int} (h : Cw.takeT l 0 m = (t, n, 0)) : 1 ≤ n ∧ n ≤ l.length ∧ Cw.text t = l.take n.toNat := by
  unfold Cw.takeT at h
  rcases takeC_cases l 0 m with ⟨u1, n1, e1, h1, h2, h3, h4⟩ | ⟨e1, h1, h2⟩
  · rw [e1] at h
    simp only [ne_eq, not_true_eq_false, if_false, Prod.mk.injEq] at h
    obtain ⟨h5, h6, -⟩ := h
    have hU : Cw.takeU l 0 = (u1, n1, 0) := by
      unfold Cw.takeC at e1
      rcases Cw.takeU_cases l 0 with ⟨u2, n2, e2, g1, g2, g3, g4, g5⟩ | ⟨e2, g1, g2⟩
      · rw [e2] at e1 ⊢
        simp only [ne_eq, not_true_eq_false, if_false] at e1
        split at e1
        · simp at e1
        · split at e1
          · simp at e1
          · exact e1
      · rw [g1] at e1
        simp only at e1
        rw [if_pos (by omega)] at e1
        simp only [Prod.mk.injEq] at e1
        omega
    obtain ⟨f1, f2, f3⟩ := takeU_is hU
    refine ⟨by omega, by omega, ?_⟩
    have ht : t.length = u1 := by rw [← h5, List.length_take, List.length_drop]; omega
    unfold Cw.text
    rw [ht, f3, ← h5, show n.toNat = n1.toNat + u1 by omega, List.take_add]
  · rw [h1] at h
    simp only at h
    rw [if_pos (by omega)] at h
    simp only [Prod.mk.injEq] at h; omega
/-! A part of a list -/
def seg (l : List UInt8) (a b : Nat) : List UInt8 := (l.drop a).take (b - a)
theorem seg_app (l : List UInt8) (a b c : Nat) (h : a ≤ b) (h2 : b ≤ c) : seg l a b ++ seg l b c = seg l a c := by
  unfold seg
  rw [show c - a = (b - a) + (c - b) by omega, List.take_add, List.drop_drop, show a + (b - a) = b by omega]
theorem seg_len (l : List UInt8) (a b : Nat) (h2 : b ≤ l.length) : (seg l a b).length = b - a := by
  unfold seg
  rw [List.length_take, List.length_drop]; omega
theorem seg_split (l : List UInt8) (a b : Nat) (h : a ≤ b) : l = l.take a ++ (seg l a b ++ l.drop b) := by
  have e : seg l a b ++ l.drop b = l.drop a := by
    unfold seg
    have := List.take_append_drop (b - a) (l.drop a)
    rw [List.drop_drop, show a + (b - a) = b by omega] at this
    exact this
  rw [e, List.take_append_drop]
/-- Between a and b the list holds these bytes. -/
def At (l : List UInt8) (a b : Int) (bs : List UInt8) : Prop := ∃ x y : Nat, a = x ∧ b = y ∧ x ≤ y ∧ y ≤ l.length ∧ bs = seg l x y
theorem At.trans {l : List UInt8} {a b c : Int} {xs ys : List UInt8} (h : At l a b xs) (k : At l b c ys) : At l a c (xs ++ ys) := by
  obtain ⟨x, y, rfl, rfl, h1, h2, rfl⟩ := h
  obtain ⟨y', z, e, rfl, k1, k2, rfl⟩ := k
  obtain rfl : y = y' := by omega
  exact ⟨x, z, rfl, rfl, by omega, k2, seg_app l x y z h1 k1⟩
theorem At.refl {l : List UInt8} {a : Int} (h0 : 0 ≤ a) (h1 : a ≤ l.length) : At l a a [] := by
  obtain ⟨x, rfl⟩ := Int.eq_ofNat_of_zero_le h0
  exact ⟨x, x, rfl, rfl, Nat.le_refl _, by omega, by simp [seg]⟩
theorem At.len {l : List UInt8} {a b : Int} {xs : List UInt8} (h : At l a b xs) : 0 ≤ a ∧ b = a + (xs.length : Int) ∧ b ≤ l.length := by
  obtain ⟨x, y, rfl, rfl, h1, h2, rfl⟩ := h
  rw [seg_len l x y h2]; omega
theorem At.split {l : List UInt8} {a c : Int} {xs ys : List UInt8} (h : At l a c (xs ++ ys)) : At l a (a + (xs.length : Int)) xs ∧ At l (a + (xs.length : Int)) c ys := by
  obtain ⟨x, z, rfl, rfl, h1, h2, h3⟩ := h
  have hl := congrArg List.length h3
  rw [seg_len l x z h2, List.length_append] at hl
  have h4 := seg_app l x (x + xs.length) z (by omega) (by omega)
  rw [← h3] at h4
  obtain ⟨h5, h6⟩ := List.append_inj h4 (by rw [seg_len l _ _ (by omega)]; omega)
  exact ⟨⟨x, x + xs.length, rfl, by omega, by omega, by omega, h5.symm⟩, ⟨x + xs.length, z, by omega, rfl, by omega, h2, h6.symm⟩⟩
theorem At.cut {l : List UInt8} {a c : Int} {xs ys : List UInt8} (h : At l a c (xs ++ ys)) : ∃ b, At l a b xs ∧ At l b c ys := ⟨_, h.split⟩
theorem At.whole (p bs r : List UInt8) : At (p ++ (bs ++ r)) (p.length : Nat) ((p.length : Int) + (bs.length : Int)) bs := by
  refine ⟨p.length, p.length + bs.length, rfl, by omega, by omega, by simp only [List.length_append]; omega, ?_⟩
  unfold seg
  rw [List.drop_left, show p.length + bs.length - p.length = bs.length by omega, List.take_left]
theorem At.eq {l : List UInt8} {n : Int} {bs : List UInt8} (h : At l 0 n bs) : bs = l.take n.toNat := by
  obtain ⟨x, y, h0, rfl, h1, h2, rfl⟩ := h
  obtain rfl : x = 0 := by omega
  simp [seg]
/-! Words -/
theorem takeU_IS {l : List UInt8} {a n : Int} {u : Nat} (h : Cw.takeU l a = (u, n, 0)) : At l a n (Cw.vint u) ∧ a < n := by
  rcases Cw.takeU_cases l a with ⟨u1, n1, e1, h1, h2, h3, h4, h5⟩ | ⟨e1, h1, h2⟩
  · obtain ⟨x, rfl⟩ := Int.eq_ofNat_of_zero_le h2
    have hx : x ≤ l.length := by omega
    have hs := takeU_shift l x hx
    rw [h] at hs
    generalize hq : Cw.takeU (l.drop x) 0 = q at hs
    obtain ⟨u', n', e'⟩ := q
    simp only [Prod.mk.injEq] at hs
    obtain ⟨rfl, hn, rfl⟩ := hs
    rw [if_pos rfl] at hn
    obtain ⟨g1, g2, g3⟩ := takeU_is hq
    rw [List.length_drop] at g2
    refine ⟨⟨x, x + n'.toNat, rfl, by omega, by omega, by omega, ?_⟩, by omega⟩
    rw [g3]; unfold seg
    rw [show x + n'.toNat - x = n'.toNat by omega]
  · rw [h1] at h; simp only [Prod.mk.injEq] at h; omega
theorem takeU_RT {l : List UInt8} {a n : Int} {u : Nat} (h : At l a n (Cw.vint u)) (hu : (u : Int) < Cw.M64) : Cw.takeU l a = (u, n, 0) := by
  have hl := h.len
  obtain ⟨x, y, rfl, rfl, h1, h2, h3⟩ := h
  have e := seg_split l x y h1
  rw [← h3] at e
  have := takeU_at (l.take x) (l.drop y) u hu
  rw [← e, List.length_take, show min x l.length = x by omega] at this
  rw [this, hl.2.1]
theorem takeC_U {l : List UInt8} {a n m : Int} {u : Nat} (h : Cw.takeC l a m = (u, n, 0)) : Cw.takeU l a = (u, n, 0) ∧ (u : Int) ≤ m ∧ (u : Int) ≤ (l.length : Int) - n := by
  unfold Cw.takeC at h
  rcases Cw.takeU_cases l a with ⟨u2, n2, e2, g1, g2, g3, g4, g5⟩ | ⟨e2, g1, g2⟩
  · rw [e2] at h ⊢
    simp only [ne_eq, not_true_eq_false, if_false] at h
    split at h
    · simp at h
    · split at h
      · simp at h
      · simp only [Prod.mk.injEq] at h
        obtain ⟨rfl, rfl, _⟩ := h
        exact ⟨rfl, by omega, by omega⟩
  · rw [g1] at h
    simp only at h
    rw [if_pos (by omega)] at h
    simp only [Prod.mk.injEq] at h; omega
theorem takeC_RT {l : List UInt8} {a n m : Int} {u : Nat} (h : At l a n (Cw.vint u)) (hu : (u : Int) < Cw.M64) (hm : (u : Int) ≤ m) (hr : (u : Int) ≤ (l.length : Int) - n) : Cw.takeC l a m = (u, n, 0) := by
  unfold Cw.takeC
  rw [takeU_RT h hu]
  simp only [ne_eq, not_true_eq_false, if_false]
  rw [if_neg (by omega), if_neg (by omega)]
theorem takeT_IS {l t : List UInt8} {a n m : Int} (h : Cw.takeT l a m = (t, n, 0)) : At l a n (Cw.text t) := by
  unfold Cw.takeT at h
  generalize hq : Cw.takeC l a m = q at h
  obtain ⟨u, n1, e1⟩ := q
  simp only at h
  by_cases he : e1 = 0
  · subst he
    rw [if_neg (by simp)] at h
    simp only [Prod.mk.injEq] at h
    obtain ⟨rfl, rfl, _⟩ := h
    obtain ⟨hU, h2, h3⟩ := takeC_U hq
    obtain ⟨hA, hlt⟩ := takeU_IS hU
    have hl := hA.len
    obtain ⟨k, rfl⟩ := Int.eq_ofNat_of_zero_le (show 0 ≤ n1 by omega)
    have ht : ((l.drop (k : Int).toNat).take u).length = u := by rw [List.length_take, List.length_drop]; omega
    unfold Cw.text
    rw [ht]
    refine hA.trans ⟨k, k + u, rfl, by omega, by omega, by omega, ?_⟩
    unfold seg
    rw [show k + u - k = u by omega]; rfl
  · rw [if_pos he] at h
    simp only [Prod.mk.injEq] at h; omega
theorem takeT_RT {l t : List UInt8} {a n m : Int} (h : At l a n (Cw.text t)) (ht : (t.length : Int) < Cw.M64) (hm : (t.length : Int) ≤ m) : Cw.takeT l a m = (t, n, 0) := by
  have hl := h.len
  obtain ⟨x, y, rfl, rfl, h1, h2, h3⟩ := h
  have e := seg_split l x y h1
  rw [← h3] at e
  have := takeT_at (l.take x) (l.drop y) t m ht hm
  rw [← e, List.length_take, show min x l.length = x by omega] at this
  rw [this, hl.2.1]
theorem takeB_IS {l : List UInt8} {a n : Int} {b : Bool} (h : takeB l a = (b, n, 0)) : At l a n (Cw.boolB b) := by
  unfold takeB at h
  by_cases ha : a < 0 ∨ (l.length : Int) < a
  · rw [if_pos ha] at h; simp at h
  rw [if_neg ha] at h
  obtain ⟨x, rfl⟩ := Int.eq_ofNat_of_zero_le (show 0 ≤ a by omega)
  rw [Int.toNat_natCast] at h
  cases hd : l.drop x with
  | nil => rw [hd] at h; simp at h
  | cons c r =>
    rw [hd] at h
    simp only at h
    have hlen := congrArg List.length hd
    rw [List.length_drop, List.length_cons] at hlen
    by_cases hc : 1 < c.toNat
    · rw [if_pos hc] at h; simp at h
    · rw [if_neg hc] at h
      simp only [Prod.mk.injEq] at h
      obtain ⟨rfl, rfl, _⟩ := h
      refine ⟨x, x + 1, rfl, by omega, by omega, by omega, ?_⟩
      unfold seg
      rw [hd, show x + 1 - x = 1 by omega]
      have : c.toNat = 0 ∨ c.toNat = 1 := by omega
      rcases this with e | e
      · have : c = 0 := UInt8.toNat_inj.1 e
        subst this; rfl
      · have : c = 1 := UInt8.toNat_inj.1 e
        subst this; rfl
theorem takeB_RT {l : List UInt8} {a n : Int} {b : Bool} (h : At l a n (Cw.boolB b)) : takeB l a = (b, n, 0) := by
  have hl := h.len
  obtain ⟨x, y, rfl, rfl, h1, h2, h3⟩ := h
  have e := seg_split l x y h1
  rw [← h3] at e
  have := takeB_at (l.take x) (l.drop y) b
  rw [← e, List.length_take, show min x l.length = x by omega] at this
  have hb : (Cw.boolB b).length = 1 := by cases b <;> rfl
  rw [this, hl.2.1, hb]; rfl
/-! Values -/
def valL (v : Vl) : List UInt8 := (valB v).data.toList
theorem app_L (x y : ByteArray) : (x ++ y).data.toList = x.data.toList ++ y.data.toList := by simp
theorem valL_eq (v : Vl) : valL v = if v.kind = 1 then Cw.vint 1 ++ Cw.vint (Cw.fold v.n) else if v.kind = 2 then Cw.vint 2 ++ Cw.text v.s.data.toList else Cw.vint 0 := by
  unfold valL valB
  split
  · rw [app_L]; rfl
  · split
    · rw [app_L]; rfl
    · rfl
theorem nil_of {s : ByteArray} (h : (s.toList == []) = true) : s = ⟨#[]⟩ := by
  rw [size0] at h
  have h0 := of_decide_eq_true h
  apply ByteArray.ext
  exact Array.eq_empty_of_size_eq_zero h0
theorem decV_RT {l : List UInt8} {a n : Int} {v : Vl} (h : At l a n (valL v)) (hv : valV v = true) (h0 : -Cw.M63 ≤ v.n) (h1 : v.n < Cw.M63) : decV l a = (v, n, 0) := by
  rw [valL_eq] at h
  unfold valV at hv
  obtain ⟨kd, m, s⟩ := v
  simp only at h hv h0 h1
  unfold decV
  by_cases k1 : kd = 1
  · subst k1
    rw [if_pos rfl] at h
    obtain ⟨g1, g2⟩ := h.split
    rw [takeU_RT g1 m64_1]
    simp only [ne_eq, not_true_eq_false, if_false, if_true, Nat.one_ne_zero]
    rw [takeU_RT g2 (Cw.fold_lt m h0 h1)]
    simp only [takeIv, ne_eq, not_true_eq_false, if_false, Cw.unfold_fold]
    have hs := nil_of (by simpa using hv)
    rw [hs]
  · rw [if_neg k1] at h
    by_cases k2 : kd = 2
    · subst k2
      rw [if_pos rfl] at h
      obtain ⟨g1, g2⟩ := h.split
      rw [takeU_RT g1 m64_2]
      simp only [ne_eq, not_true_eq_false, if_false, if_true, show ¬ (2 = 0) from by decide, show ¬ (2 = 1) from by decide]
      rw [if_neg (by decide), if_neg (by decide), if_pos rfl] at hv
      simp only [Bool.and_eq_true, beq_iff_eq] at hv
      have hp := hv.2
      have hz : s.data.toList.length ≤ 64 := by
        unfold plainV at hp; simp only [Bool.and_eq_true, decide_eq_true_eq] at hp; rw [dsize]; exact hp.1
      rw [takeT_RT g2 (by rw [Cw.m64]; omega) (by omega)]
      have es : (⟨s.data.toList.toArray⟩ : ByteArray) = s := by apply ByteArray.ext; simp
      simp only [ne_eq, not_true_eq_false, if_false]
      rw [es, if_pos hp, hv.1]
    · rw [if_neg k2] at h
      rw [takeU_RT h m64_0]
      simp only [ne_eq, not_true_eq_false, if_false, if_true]
      by_cases k0 : kd = 0
      · subst k0
        simp only [if_true, Bool.and_eq_true, beq_iff_eq] at hv
        have hs := nil_of (s := s) (by simpa using hv.2)
        rw [hs, hv.1]; rfl
      · rw [if_neg k0, if_neg k1, if_neg k2] at hv; cases hv
theorem decV_IS {l : List UInt8} {a n : Int} {v : Vl} (h : decV l a = (v, n, 0)) : At l a n (valL v) := by
  unfold decV at h
  generalize hq : Cw.takeU l a = q at h
  obtain ⟨kd, n1, e1⟩ := q
  simp only at h
  by_cases he : e1 = 0
  rotate_left
  · rw [if_pos he] at h; simp only [Prod.mk.injEq] at h; omega
  subst he
  rw [if_neg (by simp)] at h
  obtain ⟨hA, _⟩ := takeU_IS hq
  by_cases k0 : kd = 0
  · subst k0
    rw [if_pos rfl] at h
    simp only [Prod.mk.injEq] at h
    obtain ⟨rfl, rfl, _⟩ := h
    rw [valL_eq]
    exact hA
  rw [if_neg k0] at h
  by_cases k1 : kd = 1
  · subst k1
    rw [if_pos rfl] at h
    generalize hr : Cw.takeU l n1 = r at h
    obtain ⟨u, n2, e2⟩ := r
    by_cases he : e2 = 0
    · subst he
      simp only [takeIv, ne_eq, not_true_eq_false, if_false, Prod.mk.injEq] at h
      obtain ⟨rfl, rfl, _⟩ := h
      obtain ⟨hB, _⟩ := takeU_IS hr
      have hu := takeU_lt hr
      rw [valL_eq]
      simp only [if_true]
      rw [Cw.fold_unfold u]
      exact hA.trans hB
    · simp [takeIv, he] at h
  rw [if_neg k1] at h
  by_cases k2 : kd = 2
  · subst k2
    rw [if_pos rfl] at h
    generalize hr : Cw.takeT l n1 64 = r at h
    obtain ⟨t, n2, e2⟩ := r
    simp only at h
    by_cases he : e2 = 0
    · subst he
      rw [if_neg (by simp)] at h
      split at h
      · simp only [Prod.mk.injEq] at h
        obtain ⟨rfl, rfl, _⟩ := h
        rw [valL_eq]
        exact hA.trans (takeT_IS hr)
      · simp at h
    · rw [if_pos he] at h; simp [he] at h
  · rw [if_neg k2] at h; simp at h

/-! Lists of parts -/
theorem foldl_L {α : Type} (f : α → ByteArray) : ∀ (l : List α) (h : ByteArray), (l.foldl (fun acc s => acc ++ f s) h).data.toList = h.data.toList ++ (l.map fun s => (f s).data.toList).flatten
  | [], h => by simp
  | x :: l, h => by
    rw [List.foldl_cons, foldl_L f l, app_L]
    simp
theorem vint_pos (u : Nat) (hu : (u : Int) < Cw.M64) : 1 ≤ (Cw.vint u).length := by
  have h := takeU_vint u [] hu
  rcases Cw.takeU_cases (Cw.vint u ++ []) 0 with ⟨u2, n2, e2, g1, g2, g3, g4, g5⟩ | ⟨e2, g1, g2⟩
  · rw [e2] at h; simp only [Prod.mk.injEq] at h; omega
  · rw [g1] at h; simp only [Prod.mk.injEq] at h; omega
theorem flat_len {α : Type} (f : α → List UInt8) : ∀ (l : List α), (∀ x ∈ l, 1 ≤ (f x).length) → l.length ≤ (l.map f).flatten.length
  | [], _ => Nat.zero_le _
  | x :: l, h => by
    have h1 := h x (by simp)
    have h2 := flat_len f l fun y hy => h y (by simp [hy])
    simp only [List.map_cons, List.flatten_cons, List.length_append, List.length_cons]
    omega
theorem flat_split {α : Type} (f : α → List UInt8) (l : List α) (k : Nat) (h : k < l.length) : (l.map f).flatten = ((l.take k).map f).flatten ++ (f l[k] ++ ((l.drop (k + 1)).map f).flatten) := by
  have e : l = l.take k ++ l[k] :: l.drop (k + 1) := by rw [← List.drop_eq_getElem_cons h, List.take_append_drop]
  have e2 := congrArg (fun q => (q.map f).flatten) e
  simp only [List.map_append, List.map_cons, List.flatten_append, List.flatten_cons] at e2
  exact e2
theorem flat_next {α : Type} (f : α → List UInt8) (l : List α) (k : Nat) (h : k < l.length) : ((l.take (k + 1)).map f).flatten = ((l.take k).map f).flatten ++ f l[k] := by
  rw [List.take_succ_eq_append_getElem h]
  simp only [List.map_append, List.flatten_append, List.map_cons, List.map_nil, List.flatten_cons, List.flatten_nil, List.append_nil]
def textL (s : ByteArray) : List UInt8 := (textB s).data.toList
theorem textL_eq (s : ByteArray) : textL s = Cw.text s.data.toList := rfl
theorem mk_L (s : ByteArray) : (⟨s.data.toList.toArray⟩ : ByteArray) = s := by apply ByteArray.ext; simp
theorem valL_pos (v : Vl) (h0 : -Cw.M63 ≤ v.n) (h1 : v.n < Cw.M63) : 1 ≤ (valL v).length := by
  rw [valL_eq]
  have p1 := vint_pos 1 m64_1
  have p2 := vint_pos 2 m64_2
  have p0 := vint_pos 0 m64_0
  split
  · rw [List.length_append]; omega
  · split
    · rw [List.length_append]; omega
    · omega
theorem textL_pos (s : ByteArray) (h : s.size ≤ 1073741824) : 1 ≤ (textL s).length := by
  rw [textL_eq]; unfold Cw.text
  have p := vint_pos s.data.toList.length (by rw [dsize, Cw.m64]; omega)
  rw [List.length_append]; omega

theorem vsSt_RT (l : List UInt8) (a n : Int) (vs : List Vl) (h : At l a n (vs.map valL).flatten) (hv : ∀ v ∈ vs, valV v = true ∧ -Cw.M63 ≤ v.n ∧ v.n < Cw.M63) : ∀ k, k ≤ vs.length → vsSt l a 0 k = (vs.take k, a + (((vs.take k).map valL).flatten.length : Int), 0)
  | 0, _ => by simp [vsSt]
  | k + 1, hk => by
    have ih := vsSt_RT l a n vs h hv k (by omega)
    rw [flat_split valL vs k (by omega)] at h
    have HH := h.split.2.split.1
    have hd := decV_RT HH (hv _ (List.getElem_mem (by omega))).1 (hv _ (List.getElem_mem (by omega))).2.1 (hv _ (List.getElem_mem (by omega))).2.2
    show (_, _, _) = _
    rw [ih]
    simp only [rdV_ok]
    rw [hd, flat_next valL vs k (by omega), List.take_succ_eq_append_getElem (by omega)]
    simp only []
    rw [List.length_append]
    refine Prod.ext rfl (Prod.ext ?_ rfl)
    simp only []
    omega
theorem vsSt_IS (l : List UInt8) (a : Int) (h0 : 0 ≤ a) (h1 : a ≤ l.length) : ∀ k, (vsSt l a 0 k).2.2 = 0 → At l a (vsSt l a 0 k).2.1 ((vsSt l a 0 k).1.map valL).flatten
  | 0, _ => by simpa [vsSt] using At.refl h0 h1
  | k + 1, he => by
    by_cases hk : (vsSt l a 0 k).2.2 = 0
    · have ih := vsSt_IS l a h0 h1 k hk
      generalize hq : vsSt l a 0 k = q at ih hk
      obtain ⟨vs, b, e⟩ := q
      simp only at ih hk
      subst hk
      have es : vsSt l a 0 (k + 1) = (vs ++ [(decV l b).1], (decV l b).2.1, (decV l b).2.2) := by
        show (_, _, _) = _
        rw [hq]
        simp only [rdV_ok]
      rw [es] at he ⊢
      simp only at he ⊢
      generalize hr : decV l b = r at he ⊢
      obtain ⟨v, n, e⟩ := r
      simp only at he ⊢
      subst he
      have hB := decV_IS hr
      simp only [List.map_append, List.flatten_append, List.map_cons, List.map_nil, List.flatten_cons, List.flatten_nil, List.append_nil]
      exact ih.trans hB
    · have := vsSt_err l a 0 k hk (k + 1) (by omega)
      rw [this] at he; exact absurd he hk
theorem rdVs_RT (l : List UInt8) (a n : Int) (vs : List Vl) (h : At l a n (Cw.vint vs.length ++ (vs.map valL).flatten)) (hm : vs.length ≤ 6) (hv : ∀ v ∈ vs, valV v = true ∧ -Cw.M63 ≤ v.n ∧ v.n < Cw.M63) : rdVs l a 0 = (vs, n, 0) := by
  obtain ⟨g1, g2⟩ := h.split
  have l2 := g2.len
  have hp : vs.length ≤ ((vs.map valL).flatten).length := flat_len valL vs fun v hx => valL_pos v (hv v hx).2.1 (hv v hx).2.2
  unfold rdVs
  rw [rdC_ok, takeC_RT g1 (by rw [Cw.m64]; omega) (m := 6) (by omega) (by omega)]
  simp only []
  rw [vsSt_RT l _ n vs g2 hv vs.length (Nat.le_refl _), List.take_length, l2.2.1]
theorem rdVs_IS (l : List UInt8) (a n : Int) (vs : List Vl) (h : rdVs l a 0 = (vs, n, 0)) : At l a n (Cw.vint vs.length ++ (vs.map valL).flatten) ∧ vs.length ≤ 6 := by
  unfold rdVs at h
  rw [rdC_ok] at h
  rcases takeC_cases l a 6 with ⟨u, n1, h1, h2, h3, h4, h5⟩ | ⟨e1, h1, h2⟩
  · rw [h1] at h
    simp only at h
    obtain ⟨hU, _, _⟩ := takeC_U h1
    obtain ⟨hA, _⟩ := takeU_IS hU
    have hl := hA.len
    have hI := vsSt_IS l n1 (by omega) (by omega) u (by rw [h])
    have hn := vsSt_len l n1 0 u
    rw [h] at hI hn
    simp only at hI hn
    rw [hn]
    exact ⟨hA.trans hI, by omega⟩
  · rw [h1] at h
    simp only [vsSt, Prod.mk.injEq] at h
    omega

theorem ksSt_RT (l : List UInt8) (a n : Int) (vs : List ByteArray) (h : At l a n (vs.map textL).flatten) (hv : ∀ v ∈ vs, v.size ≤ 24) : ∀ k, k ≤ vs.length → ksSt l a 0 k = (vs.take k, a + (((vs.take k).map textL).flatten.length : Int), 0)
  | 0, _ => by simp [ksSt]
  | k + 1, hk => by
    have ih := ksSt_RT l a n vs h hv k (by omega)
    rw [flat_split textL vs k (by omega)] at h
    have HH := h.split.2.split.1
    have hd := takeT_RT (m := 24) HH (by rw [dsize, Cw.m64]; have := hv _ (List.getElem_mem (show k < vs.length by omega)); omega) (by rw [dsize]; have := hv _ (List.getElem_mem (show k < vs.length by omega)); omega)
    show (_, _, _) = _
    rw [ih]
    simp only [rdT_ok]
    rw [hd, flat_next textL vs k (by omega), List.take_succ_eq_append_getElem (by omega)]
    simp only [mk_L]
    rw [List.length_append]
    refine Prod.ext rfl (Prod.ext ?_ rfl)
    simp only []
    omega
theorem ksSt_IS (l : List UInt8) (a : Int) (h0 : 0 ≤ a) (h1 : a ≤ l.length) : ∀ k, (ksSt l a 0 k).2.2 = 0 → At l a (ksSt l a 0 k).2.1 ((ksSt l a 0 k).1.map textL).flatten
  | 0, _ => by simpa [ksSt] using At.refl h0 h1
  | k + 1, he => by
    by_cases hk : (ksSt l a 0 k).2.2 = 0
    · have ih := ksSt_IS l a h0 h1 k hk
      generalize hq : ksSt l a 0 k = q at ih hk
      obtain ⟨vs, b, e⟩ := q
      simp only at ih hk
      subst hk
      have es : ksSt l a 0 (k + 1) = (vs ++ [⟨(Cw.takeT l b 24).1.toArray⟩], (Cw.takeT l b 24).2.1, (Cw.takeT l b 24).2.2) := by
        show (_, _, _) = _
        rw [hq]
        simp only [rdT_ok]
      rw [es] at he ⊢
      simp only at he ⊢
      generalize hr : Cw.takeT l b 24 = r at he ⊢
      obtain ⟨v, n, e⟩ := r
      simp only at he ⊢
      subst he
      have hB := takeT_IS hr
      simp only [List.map_append, List.flatten_append, List.map_cons, List.map_nil, List.flatten_cons, List.flatten_nil, List.append_nil]
      exact ih.trans hB
    · have := ksSt_err l a 0 k hk (k + 1) (by omega)
      rw [this] at he; exact absurd he hk
theorem rdKs_RT (l : List UInt8) (a n : Int) (vs : List ByteArray) (h : At l a n (Cw.vint vs.length ++ (vs.map textL).flatten)) (hm : vs.length ≤ 64) (hv : ∀ v ∈ vs, v.size ≤ 24) : rdKs l a 0 = (vs, n, 0) := by
  obtain ⟨g1, g2⟩ := h.split
  have l2 := g2.len
  have hp : vs.length ≤ ((vs.map textL).flatten).length := flat_len textL vs fun v hx => textL_pos v (by have := hv v hx; omega)
  unfold rdKs
  rw [rdC_ok, takeC_RT g1 (by rw [Cw.m64]; omega) (m := 64) (by omega) (by omega)]
  simp only []
  rw [ksSt_RT l _ n vs g2 hv vs.length (Nat.le_refl _), List.take_length, l2.2.1]
theorem rdKs_IS (l : List UInt8) (a n : Int) (vs : List ByteArray) (h : rdKs l a 0 = (vs, n, 0)) : At l a n (Cw.vint vs.length ++ (vs.map textL).flatten) ∧ vs.length ≤ 64 := by
  unfold rdKs at h
  rw [rdC_ok] at h
  rcases takeC_cases l a 64 with ⟨u, n1, h1, h2, h3, h4, h5⟩ | ⟨e1, h1, h2⟩
  · rw [h1] at h
    simp only at h
    obtain ⟨hU, _, _⟩ := takeC_U h1
    obtain ⟨hA, _⟩ := takeU_IS hU
    have hl := hA.len
    have hI := ksSt_IS l n1 (by omega) (by omega) u (by rw [h])
    have hn := ksSt_len l n1 0 u
    rw [h] at hI hn
    simp only at hI hn
    rw [hn]
    exact ⟨hA.trans hI, by omega⟩
  · rw [h1] at h
    simp only [ksSt, Prod.mk.injEq] at h
    omega

/-! Requests -/
def restL (r : Req) : List UInt8 := if r.dc = true then (Cw.vint r.rd.length ++ (r.rd.map textL).flatten) ++ (Cw.vint r.wt.length ++ (r.wt.map textL).flatten) else []
def reqL (r : Req) : List UInt8 := Cw.vint r.cl.toNat ++ (Cw.vint r.sq.toNat ++ (Cw.text r.pr.data.toList ++ ((Cw.vint r.args.length ++ (r.args.map valL).flatten) ++ (Cw.boolB r.dc ++ restL r))))
theorem keysB_L (l : List ByteArray) : (keysB l).data.toList = Cw.vint l.length ++ (l.map textL).flatten := by
  unfold keysB keysH
  rw [List.take_length, foldl_L]; rfl
theorem reqB_L (r : Req) (he : reqE r = 0) : (reqB r).data.toList = reqL r := by
  have hr : reqB r = valsH (reqHead r) r.args r.args.length ++ boolBB r.dc ++ (if r.dc = true then keysB r.rd ++ keysB r.wt else ⟨#[]⟩) := if_pos he
  have h1 : (valsH (reqHead r) r.args r.args.length).data.toList = (reqHead r).data.toList ++ (r.args.map valL).flatten := by
    unfold valsH; rw [List.take_length, foldl_L]; rfl
  have h2 : (reqHead r).data.toList = Cw.vint r.cl.toNat ++ (Cw.vint r.sq.toNat ++ (Cw.text r.pr.data.toList ++ Cw.vint r.args.length)) := by
    unfold reqHead; rw [app_L, app_L, app_L]; simp [vintB, textB]
  have h3 : (if r.dc = true then keysB r.rd ++ keysB r.wt else (⟨#[]⟩ : ByteArray)).data.toList = restL r := by
    unfold restL
    split
    · rw [app_L, keysB_L, keysB_L]
    · rfl
  have h4 : (boolBB r.dc).data.toList = Cw.boolB r.dc := rfl
  rw [hr, app_L, app_L, h1, h2, h3, h4]
  unfold reqL
  simp only [List.append_assoc]
theorem reqB_none (r : Req) (he : reqE r ≠ 0) : reqB r = ⟨#[]⟩ := if_neg he
theorem reqL_pos (r : Req) (ok : r.ok) : 1 ≤ (reqL r).length := by
  have := vint_pos r.cl.toNat (by rw [Cw.m64]; have := ok.c1; have := ok.c2; omega)
  unfold reqL
  rw [List.length_append]; omega
theorem decReq_RT (l : List UInt8) (a n : Int) (r : Req) (hf : r.fit) (he : reqE r = 0) (h : At l a n (reqB r).data.toList) : decReq l a = (r, n, 0) := by
  have ok := (reqE_ok r).1 he
  rw [reqB_L r he] at h
  unfold reqL at h
  obtain ⟨b1, g1, h⟩ := h.cut
  obtain ⟨b2, g2, h⟩ := h.cut
  obtain ⟨b3, g3, h⟩ := h.cut
  obtain ⟨b4, g4, h⟩ := h.cut
  obtain ⟨b5, g5, h⟩ := h.cut
  have c1 := ok.c1; have c2 := ok.c2; have s1 := ok.s1; have s2 := ok.s2
  have zn := nameV_size _ ok.nm
  have e1 : rqU1 l a = (r.cl.toNat, b1, 0) := by unfold rqU1; rw [rdU_ok, takeU_RT g1 (by rw [Cw.m64]; omega)]
  have e2 : rqU2 l a = (r.sq.toNat, b2, 0) := by unfold rqU2; rw [e1]; simp only [rdU_ok]; rw [takeU_RT g2 (by rw [Cw.m64]; omega)]
  have e3 : rqP l a = (r.pr.data.toList, b3, 0) := by unfold rqP; rw [e2]; simp only [rdT_ok]; rw [takeT_RT g3 (by rw [dsize, Cw.m64]; omega) (by rw [dsize]; omega)]
  have e4 : rqV l a = (r.args, b4, 0) := by unfold rqV; rw [e3]; exact rdVs_RT l _ _ r.args g4 ok.ln fun v hv => ⟨(ok.ar v hv).1, hf.ns v hv⟩
  have e5 : rqD l a = (r.dc, b5, 0) := by unfold rqD; rw [e4]; simp only [rdF_ok]; rw [takeB_RT g5]
  have small : ∀ k : List ByteArray, ascK none k = true → ∀ s ∈ k, s.size ≤ 24 := fun k hk s hs => keyV_size s (ascK_keys k none hk s hs)
  have hx : ∃ b : Int, rqR l a = (r.rd, b, 0) ∧ rqW l a = (r.wt, n, 0) := by
    unfold restL at h
    by_cases hd : r.dc = true
    · rw [if_pos hd] at h
      obtain ⟨b6, g6, g7⟩ := h.cut
      have e6 : rqR l a = (r.rd, b6, 0) := by unfold rqR rdFt; rw [e5]; simp only [hd, if_true]; exact rdKs_RT l _ _ r.rd g6 ok.rd.2 (small _ ok.rd.1)
      have e7 : rqW l a = (r.wt, n, 0) := by unfold rqW rdFt; rw [e5, e6]; simp only [hd, if_true]; exact rdKs_RT l _ _ r.wt g7 ok.wt.2 (small _ ok.wt.1)
      exact ⟨_, e6, e7⟩
    · have hd' : r.dc = false := by simpa using hd
      obtain ⟨z1, z2⟩ := ok.un hd'
      rw [if_neg hd] at h
      have hz := h.len
      simp only [List.length_nil, Int.ofNat_eq_natCast, Int.natCast_zero, Int.add_zero] at hz
      have e6 : rqR l a = (r.rd, n, 0) := by
        unfold rqR rdFt
        rw [e5]
        simp only [hd', Bool.false_eq_true, if_false, z1]
        rw [hz.2.1]
      have e7 : rqW l a = (r.wt, n, 0) := by
        unfold rqW rdFt
        rw [e5, e6]
        simp only [hd', Bool.false_eq_true, if_false, z2]
      exact ⟨_, e6, e7⟩
  obtain ⟨b, e6, e7⟩ := hx
  have ex : rqX l a = r := by
    unfold rqX
    rw [e1, e2, e3, e4, e5, e6, e7]
    obtain ⟨cl, sq, pr, args, dc, al, rd, wt⟩ := r
    have al0 := ok.al
    simp only at c1 c2 s1 s2 al0 ⊢
    rw [mk_L, al0, show ((cl.toNat : Nat) : Int) = cl by omega, show ((sq.toNat : Nat) : Int) = sq by omega]
  unfold decReq
  rw [ex, e7, e1, e2]
  simp only [ne_eq, not_true_eq_false, if_false, he]
  rw [if_neg (by omega)]
theorem decReq_IS (l : List UInt8) (a n : Int) (r : Req) (hl : l.length ≤ 1073741824) (h : decReq l a = (r, n, 0)) : At l a n (reqB r).data.toList ∧ r.fit ∧ reqE r = 0 := by
  unfold decReq at h
  by_cases hW : (rqW l a).2.2 = 0
  rotate_left
  · rw [if_pos hW] at h; simp only [Prod.mk.injEq] at h; exact absurd h.2.2 hW
  rw [if_neg (by simpa using hW)] at h
  split at h
  · simp at h
  rename_i hlim
  split at h
  · simp at h
  rename_i hE
  simp only [Prod.mk.injEq] at h
  obtain ⟨rfl, rfl, _⟩ := h
  have hE : reqE (rqX l a) = 0 := by simpa using hE
  have fit := rqX_fit l a hl
  refine ⟨?_, fit, hE⟩
  rw [reqB_L _ hE]
  have hR : (rqR l a).2.2 = 0 := Classical.byContradiction fun hq => by rw [W_of_R l a hq] at hW; exact hq hW
  have hD : (rqD l a).2.2 = 0 := Classical.byContradiction fun hq => by rw [W_of_D l a hq] at hW; exact hq hW
  have hV : (rqV l a).2.2 = 0 := Classical.byContradiction fun hq => by rw [W_of_V l a hq] at hW; exact hq hW
  have hP : (rqP l a).2.2 = 0 := Classical.byContradiction fun hq => by rw [W_of_P l a hq] at hW; exact hq hW
  have hU2 : (rqU2 l a).2.2 = 0 := Classical.byContradiction fun hq => by rw [rqP_of l a hq] at hP; exact hq hP
  have hU1 : (rqU1 l a).2.2 = 0 := Classical.byContradiction fun hq => by rw [rqU2_of l a hq] at hU2; exact hq hU2
  have three : ∀ {α : Type} (x : α × Int × Int), x.2.2 = 0 → x = (x.1, x.2.1, 0) := fun x hx => by rw [← hx]
  have a1 : At l a (rqU1 l a).2.1 (Cw.vint (rqU1 l a).1) := (takeU_IS ((by unfold rqU1; rw [rdU_ok] : rqU1 l a = Cw.takeU l a).symm.trans (three _ hU1))).1
  have a2 : At l (rqU1 l a).2.1 (rqU2 l a).2.1 (Cw.vint (rqU2 l a).1) := (takeU_IS ((by unfold rqU2; rw [hU1, rdU_ok] : rqU2 l a = Cw.takeU l (rqU1 l a).2.1).symm.trans (three _ hU2))).1
  have a3 : At l (rqU2 l a).2.1 (rqP l a).2.1 (Cw.text (rqP l a).1) := takeT_IS (m := 16) ((by unfold rqP; rw [hU2, rdT_ok] : rqP l a = Cw.takeT l (rqU2 l a).2.1 16).symm.trans (three _ hP))
  have a4 : At l (rqP l a).2.1 (rqV l a).2.1 (Cw.vint (rqV l a).1.length ++ ((rqV l a).1.map valL).flatten) := (rdVs_IS l _ _ _ ((by unfold rqV; rw [hP] : rqV l a = rdVs l (rqP l a).2.1 0).symm.trans (three _ hV))).1
  have a5 : At l (rqV l a).2.1 (rqD l a).2.1 (Cw.boolB (rqD l a).1) := takeB_IS ((by unfold rqD; rw [hV, rdF_ok] : rqD l a = takeB l (rqV l a).2.1).symm.trans (three _ hD))
  have a6 : At l (rqD l a).2.1 (rqW l a).2.1 (restL (rqX l a)) := by
    unfold restL
    by_cases hd : (rqX l a).dc = true
    · have hd' : (rqD l a).1 = true := hd
      rw [if_pos hd]
      refine (rdKs_IS l (rqD l a).2.1 (rqR l a).2.1 (rqR l a).1 ?_).1.trans (rdKs_IS l (rqR l a).2.1 (rqW l a).2.1 (rqW l a).1 ?_).1
      · exact (by unfold rqR rdFt; rw [if_pos hd', hD] : rqR l a = rdKs l (rqD l a).2.1 0).symm.trans (three _ hR)
      · exact (by unfold rqW rdFt; rw [if_pos hd', hR] : rqW l a = rdKs l (rqR l a).2.1 0).symm.trans (three _ hW)
    · have hd' : ¬ (rqD l a).1 = true := hd
      rw [if_neg hd]
      have h5 := a5.len
      have e6 : (rqR l a).2.1 = (rqD l a).2.1 := by unfold rqR rdFt; rw [if_neg hd']
      have e7 : (rqW l a).2.1 = (rqR l a).2.1 := by unfold rqW rdFt; rw [if_neg hd']
      rw [e7, e6]
      exact At.refl (by have := a5.len; omega) (by omega)
  have big := a1.trans (a2.trans (a3.trans (a4.trans (a5.trans a6))))
  exact big
/-! Lists of requests -/
def rqL (r : Req) : List UInt8 := (reqB r).data.toList
def goodL (l : List Req) : Prop := l.length ≤ 64 ∧ ∀ r ∈ l, reqE r = 0
theorem encReqs_L (l : List Req) (h : goodL l) : (encReqs l).data.toList = Cw.vint l.length ++ (l.map rqL).flatten := by
  unfold encReqs
  rw [if_neg (by have := h.1; omega), if_pos h.2]
  unfold encH
  rw [List.take_length, foldl_L]; rfl
theorem encReqs_none (l : List Req) (h : ¬ goodL l) : encReqs l = ⟨#[]⟩ := by
  unfold encReqs
  split
  · rfl
  · rename_i h1
    exact if_neg fun h2 => h ⟨by omega, h2⟩
theorem rqL_pos (r : Req) (he : reqE r = 0) : 1 ≤ (rqL r).length := by
  unfold rqL
  rw [reqB_L r he]; exact reqL_pos r ((reqE_ok r).1 he)
theorem rsSt_RT (l : List UInt8) (a n : Int) (rs : List Req) (h : At l a n (rs.map rqL).flatten) (hf : ∀ r ∈ rs, r.fit) (he : ∀ r ∈ rs, reqE r = 0) : ∀ k, k ≤ rs.length → rsSt l a k = (rs.take k, a + (((rs.take k).map rqL).flatten.length : Int), 0)
  | 0, _ => by simp [rsSt]
  | k + 1, hk => by
    have ih := rsSt_RT l a n rs h hf he k (by omega)
    rw [flat_split rqL rs k (by omega)] at h
    have HH := h.split.2.split.1
    have hm : rs[k] ∈ rs := List.getElem_mem (by omega)
    have hd := decReq_RT l _ _ rs[k] (hf _ hm) (he _ hm) HH
    rw [rsSt_ok l a k (by rw [ih]), ih]
    simp only []
    rw [hd, flat_next rqL rs k (by omega), List.take_succ_eq_append_getElem (by omega)]
    simp only []
    rw [List.length_append]
    refine Prod.ext rfl (Prod.ext ?_ rfl)
    simp only []
    omega
theorem rsSt_IS (l : List UInt8) (a : Int) (hl : l.length ≤ 1073741824) (h0 : 0 ≤ a) (h1 : a ≤ l.length) : ∀ k, (rsSt l a k).2.2 = 0 → At l a (rsSt l a k).2.1 ((rsSt l a k).1.map rqL).flatten ∧ (rsSt l a k).1.length = k ∧ ∀ r ∈ (rsSt l a k).1, reqE r = 0
  | 0, _ => by
    refine ⟨by simpa [rsSt] using At.refl h0 h1, rfl, fun r h => by cases h⟩
  | k + 1, he => by
    by_cases hk : (rsSt l a k).2.2 = 0
    · obtain ⟨i1, i2, i3⟩ := rsSt_IS l a hl h0 h1 k hk
      have es := rsSt_ok l a k hk
      rw [es] at he ⊢
      simp only at he ⊢
      generalize hr : decReq l (rsSt l a k).2.1 = q at he ⊢
      obtain ⟨v, n, e⟩ := q
      simp only at he ⊢
      subst he
      obtain ⟨hB, _, hE⟩ := decReq_IS l _ n v hl hr
      simp only [List.map_append, List.flatten_append, List.map_cons, List.map_nil, List.flatten_cons, List.flatten_nil, List.append_nil]
      refine ⟨i1.trans hB, by simp [i2], fun r hr => ?_⟩
      rcases List.mem_append.1 hr with hr | hr
      · exact i3 r hr
      · rw [List.mem_singleton.1 hr]; exact hE
    · have := rsSt_err l a k hk (k + 1) (by omega)
      rw [this] at he; exact absurd he hk
theorem decReqs_RT (l : List UInt8) (a n : Int) (rs : List Req) (hg : goodL rs) (hf : ∀ r ∈ rs, r.fit) (h : At l a n (encReqs rs).data.toList) : decReqs l a = (rs, n, 0) := by
  rw [encReqs_L rs hg] at h
  obtain ⟨g1, g2⟩ := h.split
  have l2 := g2.len
  have h64 := hg.1
  have hp := flat_len rqL rs fun r hr => rqL_pos r (hg.2 r hr)
  have hC := takeC_RT (m := 64) g1 (by rw [Cw.m64]; omega) (by omega) (by omega)
  have hS := rsSt_RT l _ n rs g2 hf hg.2 rs.length (Nat.le_refl _)
  rw [List.take_length, ← l2.2.1] at hS
  unfold decReqs
  rw [hC]
  simp only [ne_eq, not_true_eq_false, if_false]
  rw [hS]
  simp
theorem decReqs_IS (l : List UInt8) (a n : Int) (rs : List Req) (hl : l.length ≤ 1073741824) (h : decReqs l a = (rs, n, 0)) : At l a n (encReqs rs).data.toList ∧ goodL rs ∧ a < n := by
  unfold decReqs at h
  rcases takeC_cases l a 64 with ⟨u, n1, h1, h2, h3, h4, h5⟩ | ⟨e1, h1, h2⟩
  · rw [h1] at h
    simp only [ne_eq, not_true_eq_false, if_false] at h
    obtain ⟨hU, _, _⟩ := takeC_U h1
    obtain ⟨hA, hlt⟩ := takeU_IS hU
    by_cases he : (rsSt l n1 u).2.2 = 0
    · obtain ⟨i1, i2, i3⟩ := rsSt_IS l n1 hl (by omega) (by omega) u he
      rw [if_neg (by simpa using he)] at h
      rw [h] at i1 i2 i3
      simp only at i1 i2 i3
      have hg : goodL rs := ⟨by omega, i3⟩
      refine ⟨?_, hg, ?_⟩
      · rw [encReqs_L rs hg, i2]; exact hA.trans i1
      · have := i1.len; omega
    · rw [if_pos he] at h
      simp only [Prod.mk.injEq] at h
      exact absurd h.2.2 he
  · rw [h1] at h
    simp only [ne_eq] at h
    rw [if_pos (by omega)] at h
    simp only [Prod.mk.injEq] at h
    omega

end Go.Proofs.Ytpnihinmlmoogaa
