/- The reference's DecodeRequest. -/
import Derived.Test.YtalebiebdmidoaaBj
namespace Go.Proofs.Ytalebiebdmidoaa
open Go Ab Go.RowKit
attribute [local irreducible] awp aops aop asoft aeff aloop acall acallI acallT
attribute [local go_sem] Vl.row sRow

def ksG (l : List UInt8) (a e : Int) : Nat → List ByteArray × Int × Int
  | 0 => ([], a, e)
  | k + 1 => if (ksG l a e k).2.2 ≠ 0 then ksG l a e k else ((ksG l a e k).1 ++ [⟨((rdT l 24 (ksG l a e k).2.1 (ksG l a e k).2.2)).1.toArray⟩], (rdT l 24 (ksG l a e k).2.1 (ksG l a e k).2.2).2.1, (rdT l 24 (ksG l a e k).2.1 (ksG l a e k).2.2).2.2)
theorem ksG_err (l : List UInt8) (a e : Int) (k : Nat) (h : (ksG l a e k).2.2 ≠ 0) : ∀ n, k ≤ n → ksG l a e n = ksG l a e k
  | n, hn => by
    induction n with
    | zero => rw [show k = 0 by omega]
    | succ n ih =>
      by_cases hk : k = n + 1
      · rw [hk]
      · have ih := ih (by omega)
        show (if (ksG l a e n).2.2 ≠ 0 then ksG l a e n else _) = _
        rw [if_pos (by rw [ih]; exact h), ih]
theorem ksG_ok (l : List UInt8) (a e : Int) (k : Nat) (h : (ksG l a e k).2.2 = 0) : ksG l a e (k + 1) = ((ksG l a e k).1 ++ [⟨((rdT l 24 (ksG l a e k).2.1 (ksG l a e k).2.2)).1.toArray⟩], (rdT l 24 (ksG l a e k).2.1 (ksG l a e k).2.2).2.1, (rdT l 24 (ksG l a e k).2.1 (ksG l a e k).2.2).2.2) := if_neg (by simp [h])
theorem ksG_st (l : List UInt8) (a e : Int) : ∀ n, (ksG l a e n).2 = (ksSt l a e n).2 ∧ ((ksSt l a e n).2.2 = 0 → ksG l a e n = ksSt l a e n)
  | 0 => ⟨rfl, fun _ => rfl⟩
  | n + 1 => by
    obtain ⟨h1, h2⟩ := ksG_st l a e n
    by_cases he : (ksG l a e n).2.2 = 0
    · have he2 : (ksSt l a e n).2.2 = 0 := by rw [← h1]; exact he
      have h3 := h2 he2
      have h4 : ksG l a e (n + 1) = ksSt l a e (n + 1) := by rw [ksG_ok l a e n he, h3]; rfl
      exact ⟨by rw [h4], fun _ => h4⟩
    · have he2 : (ksSt l a e n).2.2 ≠ 0 := by rw [← h1]; exact he
      have h3 := ksSt_err l a e n he2 (n + 1) (by omega)
      have h4 := ksG_err l a e n he (n + 1) (by omega)
      exact ⟨by rw [h4, h3, h1], fun h => absurd h (by rw [h3]; exact he2)⟩
def rkKs (l : List UInt8) (a : Int) : List ByteArray × Int × Int := ksG l (Cw.takeC l a 64).2.1 (Cw.takeC l a 64).2.2 (Cw.takeC l a 64).1
theorem rkKs_st (l : List UInt8) (a : Int) : (rkKs l a).2 = (rdKs l a 0).2 ∧ ((rdKs l a 0).2.2 = 0 → rkKs l a = rdKs l a 0) := by
  unfold rkKs rdKs
  rw [rdC_ok]
  exact ksG_st l _ _ _

def vsG (l : List UInt8) (a e : Int) : Nat → List Vl × Int × Int
  | 0 => ([], a, e)
  | k + 1 => if (vsG l a e k).2.2 ≠ 0 then vsG l a e k else ((vsG l a e k).1 ++ [((rdV l (vsG l a e k).2.1 (vsG l a e k).2.2)).1], (rdV l (vsG l a e k).2.1 (vsG l a e k).2.2).2.1, (rdV l (vsG l a e k).2.1 (vsG l a e k).2.2).2.2)
theorem vsG_err (l : List UInt8) (a e : Int) (k : Nat) (h : (vsG l a e k).2.2 ≠ 0) : ∀ n, k ≤ n → vsG l a e n = vsG l a e k
  | n, hn => by
    induction n with
    | zero => rw [show k = 0 by omega]
    | succ n ih =>
      by_cases hk : k = n + 1
      · rw [hk]
      · have ih := ih (by omega)
        show (if (vsG l a e n).2.2 ≠ 0 then vsG l a e n else _) = _
        rw [if_pos (by rw [ih]; exact h), ih]
theorem vsG_ok (l : List UInt8) (a e : Int) (k : Nat) (h : (vsG l a e k).2.2 = 0) : vsG l a e (k + 1) = ((vsG l a e k).1 ++ [((rdV l (vsG l a e k).2.1 (vsG l a e k).2.2)).1], (rdV l (vsG l a e k).2.1 (vsG l a e k).2.2).2.1, (rdV l (vsG l a e k).2.1 (vsG l a e k).2.2).2.2) := if_neg (by simp [h])
theorem vsG_st (l : List UInt8) (a e : Int) : ∀ n, (vsG l a e n).2 = (vsSt l a e n).2 ∧ ((vsSt l a e n).2.2 = 0 → vsG l a e n = vsSt l a e n)
  | 0 => ⟨rfl, fun _ => rfl⟩
  | n + 1 => by
    obtain ⟨h1, h2⟩ := vsG_st l a e n
    by_cases he : (vsG l a e n).2.2 = 0
    · have he2 : (vsSt l a e n).2.2 = 0 := by rw [← h1]; exact he
      have h3 := h2 he2
      have h4 : vsG l a e (n + 1) = vsSt l a e (n + 1) := by rw [vsG_ok l a e n he, h3]; rfl
      exact ⟨by rw [h4], fun _ => h4⟩
    · have he2 : (vsSt l a e n).2.2 ≠ 0 := by rw [← h1]; exact he
      have h3 := vsSt_err l a e n he2 (n + 1) (by omega)
      have h4 := vsG_err l a e n he (n + 1) (by omega)
      exact ⟨by rw [h4, h3, h1], fun h => absurd h (by rw [h3]; exact he2)⟩
def rkVs (l : List UInt8) (a : Int) : List Vl × Int × Int := vsG l (Cw.takeC l a 6).2.1 (Cw.takeC l a 6).2.2 (Cw.takeC l a 6).1
theorem rkVs_st (l : List UInt8) (a : Int) : (rkVs l a).2 = (rdVs l a 0).2 ∧ ((rdVs l a 0).2.2 = 0 → rkVs l a = rdVs l a 0) := by
  unfold rkVs rdVs
  rw [rdC_ok]
  exact vsG_st l _ _ _

set_option maxRecDepth 100000 in
set_option maxHeartbeats 4000000 in
theorem takeKeys_den (s : ByteArray) (at_ : Int) (hs0 : s.size ≤ 1073741824) : PDen Try.prog 52 [.a (.str s), .a (.int .i64 at_)] (.tup [.a (.slice 1 ((rkKs s.data.toList at_).1.map sRow)), .a (.int .i64 (rkKs s.data.toList at_).2.1), .a (.int .i64 (rkKs s.data.toList at_).2.2)]) := by
  have hC := rtakecount_den s at_ 64 hs0 (by omega)
  have hD := fun a' => rtaketext_den s a' 24 hs0 (by omega)
  generalize hL : s.data.toList = L at hC hD ⊢
  have hn : ((Cw.takeC L at_ 64).1 : Int) ≤ 64 := takeC_le L at_ 64 (by omega)
  have eC : takeCV L at_ 64 = .tup [.a (.int .i64 (Cw.takeC L at_ 64).1), .a (.int .i64 (Cw.takeC L at_ 64).2.1), .a (.int .i64 (Cw.takeC L at_ 64).2.2)] := rfl
  rw [eC] at hC
  unfold rkKs
  generalize Cw.takeC L at_ 64 = C at hC hn ⊢
  obtain ⟨n, a1, e1⟩ := C
  simp only [] at hC hn ⊢
  refine den_of_body k_ref36_takeKeys ⟨rfl, Nat.le_of_ble_eq_true rfl, thaw_intro ?_⟩
  unfold c_ref36_takeKeys
  simp only [go_sem]
  refine t_call_intro (hC) ?_
  simp only [go_sem]
  refine t_loopO_intro [.slot 9 9 1] (fun k : Nat => k ≤ n ∧ ((ksG L a1 e1 k).1.length = k)) (fun k => n - k) 0 [1, 8, 9, 10, 11, 12, 13, 21, 22, 23, 24, 25, 26, 27, 28, 29, 30, 31, 32, 33, 34, 35, 36, 37, 38, 39, 40, 41, 42] (fun k => [(1, .a (.int .i64 (ksG L a1 e1 k).2.1)), (8, .a (.int .i64 (ksG L a1 e1 k).2.2)), (9, .own 0), (10, .a (.int .i64 k)), (14, .any), (17, .any)]) (fun k => []) (fun k => [⟨9, 1, (ksG L a1 e1 k).1.map sRow, false⟩]) ⟨by omega, by exact rfl⟩ (by simp) (by first | (simp; done) | simp [ksG]) (by first | (simp; done) | simp [ksG]) (by first | (simp; done) | simp [ksG]) (fun k => by first | (simp; done) | simp [ksG]) (fun k => by first | (simp; done) | simp [ksG]) (fun k => by first | (simp; done) | simp [ksG]) ?_
  intro k hk0 st_ hst
  have hk : k ≤ n := hk0.1
  have hall := hk0.2
  clear hk0
  simp only [go_sem] at hst
  subst hst
  by_cases hlt : k < n
  · have h1 : (k : Int) < (n : Int) := by omega
    have ew := wrap1 k n hlt (by omega)
    by_cases he : (ksG L a1 e1 k).2.2 = 0
    · have n1 : ((ksG L a1 e1 k).2.2 == 0) = true := by simpa using he
      have es := ksG_ok L a1 e1 k he
      rw [he, rdT_ok] at es
      have eo : (ksG L a1 e1 k).1.map sRow ++ [[.str ⟨(Cw.takeT L (ksG L a1 e1 k).2.1 24).1.toArray⟩]] = (ksG L a1 e1 (k + 1)).1.map sRow := by rw [es]; simp [sRow]
      have ea : (ksG L a1 e1 (k + 1)).2.1 = (Cw.takeT L (ksG L a1 e1 k).2.1 24).2.1 := by rw [es]
      have ee : (ksG L a1 e1 (k + 1)).2.2 = (Cw.takeT L (ksG L a1 e1 k).2.1 24).2.2 := by rw [es]
      simp only [h1, n1, go_sem]
      refine t_call_intro (hD _) ?_
      simp only [takeTV, go_sem]
      refine t_gate_intro (by first | omega | (simp; omega)) ?_
      simp only [eo, ew, go_sem]
      refine t_roundO (k + 1) ⟨by omega, by rw [es]; simp [hall]⟩ (by omega) (by first | (simp; done) | simp [ea, ee]) (by first | (simp; done) | simp [ea, ee]) (by first | (simp; done) | simp [ea, ee]) (by first | (simp; done) | simp [ea, ee]) (by first | (simp; done) | simp [ea, ee])
    · have n1 : ((ksG L a1 e1 k).2.2 == 0) = false := by simpa using he
      have ef := ksG_err L a1 e1 k he n (by omega)
      rw [ef]
      simp only [h1, n1, go_sem]
      simp only [aresult, ares, go_sem]
  · have h1 : ¬ (k : Int) < (n : Int) := by omega
    have hke : k = n := by omega
    subst hke
    simp only [h1, go_sem]
    simp only [aresult, ares, go_sem]

set_option maxRecDepth 100000 in
set_option maxHeartbeats 4000000 in
theorem takeArgs_den (s : ByteArray) (at_ : Int) (hs0 : s.size ≤ 1073741824) : PDen Try.prog 50 [.a (.str s), .a (.int .i64 at_)] (.tup [.a (.slice 3 ((rkVs s.data.toList at_).1.map Vl.row)), .a (.int .i64 (rkVs s.data.toList at_).2.1), .a (.int .i64 (rkVs s.data.toList at_).2.2)]) := by
  have hC := rtakecount_den s at_ 6 hs0 (by omega)
  have hD := fun a' => rvdec_den s a' hs0
  generalize hL : s.data.toList = L at hC hD ⊢
  have hn : ((Cw.takeC L at_ 6).1 : Int) ≤ 6 := takeC_le L at_ 6 (by omega)
  have eC : takeCV L at_ 6 = .tup [.a (.int .i64 (Cw.takeC L at_ 6).1), .a (.int .i64 (Cw.takeC L at_ 6).2.1), .a (.int .i64 (Cw.takeC L at_ 6).2.2)] := rfl
  rw [eC] at hC
  unfold rkVs
  generalize Cw.takeC L at_ 6 = C at hC hn ⊢
  obtain ⟨n, a1, e1⟩ := C
  simp only [] at hC hn ⊢
  refine den_of_body k_ref36_takeArgs ⟨rfl, Nat.le_of_ble_eq_true rfl, thaw_intro ?_⟩
  unfold c_ref36_takeArgs
  simp only [go_sem]
  refine t_call_intro (hC) ?_
  simp only [go_sem]
  refine t_loopO_intro [.slot 9 55 3] (fun k : Nat => k ≤ n ∧ ((vsG L a1 e1 k).1.length = k)) (fun k => n - k) 0 [1, 8, 9, 10, 11, 12, 13, 21, 22, 23, 24, 25, 26, 27, 28, 29, 30, 31, 32, 33, 34, 35, 36, 37, 38, 39, 40, 41, 42] (fun k => [(1, .a (.int .i64 (vsG L a1 e1 k).2.1)), (8, .a (.int .i64 (vsG L a1 e1 k).2.2)), (9, .own 0), (10, .a (.int .i64 k)), (14, .any), (17, .any)]) (fun k => []) (fun k => [⟨55, 3, (vsG L a1 e1 k).1.map Vl.row, false⟩]) ⟨by omega, by exact rfl⟩ (by simp) (by first | (simp; done) | simp [vsG]) (by first | (simp; done) | simp [vsG]) (by first | (simp; done) | simp [vsG]) (fun k => by first | (simp; done) | simp [vsG]) (fun k => by first | (simp; done) | simp [vsG]) (fun k => by first | (simp; done) | simp [vsG]) ?_
  intro k hk0 st_ hst
  have hk : k ≤ n := hk0.1
  have hall := hk0.2
  clear hk0
  simp only [go_sem] at hst
  subst hst
  by_cases hlt : k < n
  · have h1 : (k : Int) < (n : Int) := by omega
    have ew := wrap1 k n hlt (by omega)
    by_cases he : (vsG L a1 e1 k).2.2 = 0
    · have n1 : ((vsG L a1 e1 k).2.2 == 0) = true := by simpa using he
      have es := vsG_ok L a1 e1 k he
      rw [he, rdV_ok] at es
      have eo : (vsG L a1 e1 k).1.map Vl.row ++ [[.int .i64 (decV L (vsG L a1 e1 k).2.1).1.kind, .int .i64 (decV L (vsG L a1 e1 k).2.1).1.n, .str (decV L (vsG L a1 e1 k).2.1).1.s]] = (vsG L a1 e1 (k + 1)).1.map Vl.row := by rw [es]; simp [Vl.row]
      have ea : (vsG L a1 e1 (k + 1)).2.1 = (decV L (vsG L a1 e1 k).2.1).2.1 := by rw [es]
      have ee : (vsG L a1 e1 (k + 1)).2.2 = (decV L (vsG L a1 e1 k).2.1).2.2 := by rw [es]
      simp only [h1, n1, go_sem]
      refine t_call_intro (hD _) ?_
      simp only [decVV, go_sem]
      refine t_gate_intro (by first | omega | (simp; omega)) ?_
      simp only [eo, ew, go_sem]
      refine t_roundO (k + 1) ⟨by omega, by rw [es]; simp [hall]⟩ (by omega) (by first | (simp; done) | simp [ea, ee]) (by first | (simp; done) | simp [ea, ee]) (by first | (simp; done) | simp [ea, ee]) (by first | (simp; done) | simp [ea, ee]) (by first | (simp; done) | simp [ea, ee])
    · have n1 : ((vsG L a1 e1 k).2.2 == 0) = false := by simpa using he
      have ef := vsG_err L a1 e1 k he n (by omega)
      rw [ef]
      simp only [h1, n1, go_sem]
      simp only [aresult, ares, go_sem]
  · have h1 : ¬ (k : Int) < (n : Int) := by omega
    have hke : k = n := by omega
    subst hke
    simp only [h1, go_sem]
    simp only [aresult, ares, go_sem]

/-! The head -/
def smallR (l : List UInt8) (a : Int) : Bool := decide ((rqU1 l a).1 ≤ 32) && decide ((rqU2 l a).1 ≤ 1099511627776)
def headV (l : List UInt8) (a : Int) : AV :=
  if (rqP l a).2.2 ≠ 0 then .tup [.agg reqZ, .a (.bool false), .a (.int .i64 0), .a (.int .i64 (rqP l a).2.2)]
  else if smallR l a = true then .tup [.agg [.int .i64 (rqU1 l a).1, .int .i64 (rqU2 l a).1, .str ⟨(rqP l a).1.toArray⟩, .nils, .bool false, .bool false, .nils, .nils], .a (.bool true), .a (.int .i64 (rqP l a).2.1), .a (.int .i64 0)]
  else .tup [.agg [.int .i64 0, .int .i64 0, .str ⟨(rqP l a).1.toArray⟩, .nils, .bool false, .bool false, .nils, .nils], .a (.bool false), .a (.int .i64 (rqP l a).2.1), .a (.int .i64 0)]
theorem rqU2_of (l : List UInt8) (a : Int) (h : (rqU1 l a).2.2 ≠ 0) : (rqU2 l a).2.2 = (rqU1 l a).2.2 := by unfold rqU2; rw [rdU_err _ _ _ h]
theorem rqP_of (l : List UInt8) (a : Int) (h : (rqU2 l a).2.2 ≠ 0) : (rqP l a).2.2 = (rqU2 l a).2.2 := by unfold rqP; rw [rdT_err _ _ _ _ h]
theorem rqV_of (l : List UInt8) (a : Int) (h : (rqP l a).2.2 ≠ 0) : (rqV l a).2.2 = (rqP l a).2.2 := by unfold rqV; rw [rdVs_err _ _ _ h]
theorem rqD_of (l : List UInt8) (a : Int) (h : (rqV l a).2.2 ≠ 0) : (rqD l a).2.2 = (rqV l a).2.2 := by unfold rqD; rw [rdF_err _ _ _ h]
theorem rqR_of (l : List UInt8) (a : Int) (h : (rqD l a).2.2 ≠ 0) : (rqR l a).2.2 = (rqD l a).2.2 := by unfold rqR; rw [rdFt_err _ _ _ _ h]
theorem rqW_of (l : List UInt8) (a : Int) (h : (rqR l a).2.2 ≠ 0) : (rqW l a).2.2 = (rqR l a).2.2 := by unfold rqW; rw [rdFt_err _ _ _ _ h]
theorem W_of_R (l : List UInt8) (a : Int) (h : (rqR l a).2.2 ≠ 0) : (rqW l a).2.2 = (rqR l a).2.2 := rqW_of l a h
theorem W_of_D (l : List UInt8) (a : Int) (h : (rqD l a).2.2 ≠ 0) : (rqW l a).2.2 = (rqD l a).2.2 := by have e := rqR_of l a h; rw [W_of_R l a (by rw [e]; exact h), e]
theorem W_of_V (l : List UInt8) (a : Int) (h : (rqV l a).2.2 ≠ 0) : (rqW l a).2.2 = (rqV l a).2.2 := by have e := rqD_of l a h; rw [W_of_D l a (by rw [e]; exact h), e]
theorem W_of_P (l : List UInt8) (a : Int) (h : (rqP l a).2.2 ≠ 0) : (rqW l a).2.2 = (rqP l a).2.2 := by have e := rqV_of l a h; rw [W_of_V l a (by rw [e]; exact h), e]
set_option maxRecDepth 100000 in
set_option maxHeartbeats 4000000 in
theorem takeHead_den (s : ByteArray) (at_ : Int) (hs0 : s.size ≤ 1073741824) : PDen Try.prog 49 [.a (.str s), .a (.int .i64 at_)] (headV s.data.toList at_) := by
  have hU := fun a' => rtakeuint_den s a' hs0
  have hT := fun a' => rtaketext_den s a' 16 hs0 (by omega)
  generalize hL : s.data.toList = L at hU hT ⊢
  have e1 : takeUV L at_ = .tup [.a (.int .u64 (rqU1 L at_).1), .a (.int .i64 (rqU1 L at_).2.1), .a (.int .i64 (rqU1 L at_).2.2)] := by unfold rqU1; rw [rdU_ok]; rfl
  have c1 := hU at_
  rw [e1] at c1
  refine den_of_body k_ref36_takeHead ⟨rfl, Nat.le_of_ble_eq_true rfl, thaw_intro ?_⟩
  unfold c_ref36_takeHead
  simp only [go_sem]
  refine t_call_intro (c1) ?_
  by_cases z1 : (rqU1 L at_).2.2 = 0
  rotate_left
  · have n1 : ((rqU1 L at_).2.2 != 0) = true := by simpa using z1
    have f1 := rqU2_of L at_ z1
    have f2 := rqP_of L at_ (by rw [f1]; exact z1)
    have ez : (rqP L at_).2.2 = (rqU1 L at_).2.2 := by rw [f2, f1]
    unfold headV
    rw [if_pos (by rw [ez]; exact z1), ez]
    simp only [n1, reqZ, go_sem]
    simp only [aresult, ares, go_sem]
  have n1 : ((rqU1 L at_).2.2 != 0) = false := by simpa using z1
  have e2 : takeUV L (rqU1 L at_).2.1 = .tup [.a (.int .u64 (rqU2 L at_).1), .a (.int .i64 (rqU2 L at_).2.1), .a (.int .i64 (rqU2 L at_).2.2)] := by unfold rqU2; rw [z1, rdU_ok]; rfl
  have c2 := hU (rqU1 L at_).2.1
  rw [e2] at c2
  simp only [n1, go_sem]
  refine t_call_intro (c2) ?_
  by_cases z2 : (rqU2 L at_).2.2 = 0
  rotate_left
  · have n2 : ((rqU2 L at_).2.2 != 0) = true := by simpa using z2
    have f2 := rqP_of L at_ z2
    unfold headV
    rw [if_pos (by rw [f2]; exact z2), f2]
    simp only [n2, reqZ, go_sem]
    simp only [aresult, ares, go_sem]
  have n2 : ((rqU2 L at_).2.2 != 0) = false := by simpa using z2
  have e3 : takeTV L (rqU2 L at_).2.1 16 = .tup [.a (.str ⟨(rqP L at_).1.toArray⟩), .a (.int .i64 (rqP L at_).2.1), .a (.int .i64 (rqP L at_).2.2)] := by unfold rqP; rw [z2, rdT_ok]; rfl
  have c3 := hT (rqU2 L at_).2.1
  rw [e3] at c3
  simp only [n2, go_sem]
  refine t_call_intro (c3) ?_
  by_cases z3 : (rqP L at_).2.2 = 0
  rotate_left
  · have n3 : ((rqP L at_).2.2 != 0) = true := by simpa using z3
    unfold headV
    rw [if_pos z3]
    simp only [n3, reqZ, go_sem]
    simp only [aresult, ares, go_sem]
  have n3 : ((rqP L at_).2.2 != 0) = false := by simpa using z3
  unfold headV
  rw [if_neg (by simpa using z3)]
  by_cases u1 : (rqU1 L at_).1 ≤ 32
  · have q1 : ((rqU1 L at_).1 : Int) ≤ 32 := by omega
    have w1 : IntKind.i64.wrap ((rqU1 L at_).1 : Int) = ((rqU1 L at_).1 : Int) := by rw [IntKind.wrap_i64]; omega
    by_cases u2 : (rqU2 L at_).1 ≤ 1099511627776
    · have q2 : ((rqU2 L at_).1 : Int) ≤ 1099511627776 := by omega
      have w2 : IntKind.i64.wrap ((rqU2 L at_).1 : Int) = ((rqU2 L at_).1 : Int) := by rw [IntKind.wrap_i64]; omega
      have hs : smallR L at_ = true := by simp [smallR, u1, u2]
      rw [if_pos hs]
      simp only [n3, q1, q2, w1, w2, go_sem]
      simp only [aresult, ares, go_sem]
    · have q2 : ¬ ((rqU2 L at_).1 : Int) ≤ 1099511627776 := by omega
      have hs : ¬ smallR L at_ = true := by simp [smallR, u1, u2]
      have w0 : IntKind.i64.wrap 0 = 0 := by decide
      rw [if_neg hs]
      simp only [n3, q1, q2, w0, go_sem]
      simp only [aresult, ares, go_sem]
  · have q1 : ¬ ((rqU1 L at_).1 : Int) ≤ 32 := by omega
    have hs : ¬ smallR L at_ = true := by simp [smallR, u1]
    have w0 : IntKind.i64.wrap 0 = 0 := by decide
    rw [if_neg hs]
    simp only [n3, q1, w0, go_sem]
    simp only [aresult, ares, go_sem]

set_option maxRecDepth 100000 in
set_option maxHeartbeats 4000000 in
theorem rdecReq_N (s : ByteArray) (at_ : Int) (hs0 : s.size ≤ 1073741824) : PDen Try.prog 17 [.a (.str s), .a (.int .i64 at_)] (decReqN s.data.toList at_) := by
  have hH := takeHead_den s at_ hs0
  have hA0 := fun a' => takeArgs_den s a' hs0
  have hB0 := fun a' => rtakebool_den s a' hs0
  have hK0 := fun a' => takeKeys_den s a' hs0
  have hlen : s.data.toList.length ≤ 1073741824 := by rw [dsize]; exact hs0
  generalize hL : s.data.toList = L at hlen hH hA0 hB0 hK0 ⊢
  unfold headV at hH
  by_cases zP : (rqP L at_).2.2 = 0
  rotate_left
  · have n_ : ((rqP L at_).2.2 != 0) = true := by simpa using zP
    have ez := W_of_P L at_ zP
    have er : decReqN L at_ = .tup [.agg reqZ, .a (.int .i64 0), .a (.int .i64 (rqP L at_).2.2)] := by unfold decReqN; rw [if_pos (by rw [ez]; exact zP), ez]
    rw [er]
    rw [if_pos zP] at hH
    refine den_of_body k_ref36_DecodeRequest ⟨rfl, Nat.le_of_ble_eq_true rfl, thaw_intro ?_⟩
    unfold c_ref36_DecodeRequest
    simp only [go_sem]
    refine t_call_intro (hH) ?_
    simp only [n_, reqZ, go_sem]
    simp only [aresult, ares, go_sem]
  rw [if_neg (by simpa using zP)] at hH
  have eV0 := rkVs_st L (rqP L at_).2.1
  have eVV : rqV L at_ = rdVs L (rqP L at_).2.1 0 := by unfold rqV; rw [zP]
  rw [← eVV] at eV0
  have hA := hA0 (rqP L at_).2.1
  rw [eV0.1] at hA
  by_cases zV : (rqV L at_).2.2 = 0
  rotate_left
  · have n_ : ((rqV L at_).2.2 != 0) = true := by simpa using zV
    have ez := W_of_V L at_ zV
    have er : decReqN L at_ = .tup [.agg reqZ, .a (.int .i64 0), .a (.int .i64 (rqV L at_).2.2)] := by unfold decReqN; rw [if_pos (by rw [ez]; exact zV), ez]
    rw [er]
    by_cases hs : smallR L at_ = true
    · rw [if_pos hs] at hH
      refine den_of_body k_ref36_DecodeRequest ⟨rfl, Nat.le_of_ble_eq_true rfl, thaw_intro ?_⟩
      unfold c_ref36_DecodeRequest
      simp only [go_sem]
      refine t_call_intro (hH) ?_
      simp only [z00, go_sem]
      refine t_call_intro (hA) ?_
      simp only [n_, reqZ, go_sem]
      simp only [aresult, ares, go_sem]
    · rw [if_neg hs] at hH
      refine den_of_body k_ref36_DecodeRequest ⟨rfl, Nat.le_of_ble_eq_true rfl, thaw_intro ?_⟩
      unfold c_ref36_DecodeRequest
      simp only [go_sem]
      refine t_call_intro (hH) ?_
      simp only [z00, go_sem]
      refine t_call_intro (hA) ?_
      simp only [n_, reqZ, go_sem]
      simp only [aresult, ares, go_sem]

  have nV : ((rqV L at_).2.2 != 0) = false := by simpa using zV
  rw [eV0.2 zV] at hA
  have eD : takeBV L (rqV L at_).2.1 = .tup [.a (.bool (rqD L at_).1), .a (.int .i64 (rqD L at_).2.1), .a (.int .i64 (rqD L at_).2.2)] := by unfold rqD; rw [zV, rdF_ok]; rfl
  have hB := hB0 (rqV L at_).2.1
  rw [eD] at hB
  by_cases zD : (rqD L at_).2.2 = 0
  rotate_left
  · have n_ : ((rqD L at_).2.2 != 0) = true := by simpa using zD
    have ez := W_of_D L at_ zD
    have er : decReqN L at_ = .tup [.agg reqZ, .a (.int .i64 0), .a (.int .i64 (rqD L at_).2.2)] := by unfold decReqN; rw [if_pos (by rw [ez]; exact zD), ez]
    rw [er]
    by_cases hs : smallR L at_ = true
    · rw [if_pos hs] at hH
      refine den_of_body k_ref36_DecodeRequest ⟨rfl, Nat.le_of_ble_eq_true rfl, thaw_intro ?_⟩
      unfold c_ref36_DecodeRequest
      simp only [go_sem]
      refine t_call_intro (hH) ?_
      simp only [z00, go_sem]
      refine t_call_intro (hA) ?_
      simp only [nV, go_sem]
      refine t_call_intro (hB) ?_
      simp only [n_, reqZ, go_sem]
      simp only [aresult, ares, go_sem]
    · rw [if_neg hs] at hH
      refine den_of_body k_ref36_DecodeRequest ⟨rfl, Nat.le_of_ble_eq_true rfl, thaw_intro ?_⟩
      unfold c_ref36_DecodeRequest
      simp only [go_sem]
      refine t_call_intro (hH) ?_
      simp only [z00, go_sem]
      refine t_call_intro (hA) ?_
      simp only [nV, go_sem]
      refine t_call_intro (hB) ?_
      simp only [n_, reqZ, go_sem]
      simp only [aresult, ares, go_sem]

  have nD : ((rqD L at_).2.2 != 0) = false := by simpa using zD
  cases hd : (rqD L at_).1 with
  | true =>
    rw [hd] at hB
    have eR : rqR L at_ = rdKs L (rqD L at_).2.1 0 := by unfold rqR rdFt; rw [if_pos hd, zD]
    have eR0 := rkKs_st L (rqD L at_).2.1
    rw [← eR] at eR0
    have hR := hK0 (rqD L at_).2.1
    rw [eR0.1] at hR
    by_cases zR : (rqR L at_).2.2 = 0
    rotate_left
    · have n_ : ((rqR L at_).2.2 != 0) = true := by simpa using zR
      have ez := W_of_R L at_ zR
      have er : decReqN L at_ = .tup [.agg reqZ, .a (.int .i64 0), .a (.int .i64 (rqR L at_).2.2)] := by unfold decReqN; rw [if_pos (by rw [ez]; exact zR), ez]
      rw [er]
      by_cases hs : smallR L at_ = true
      · rw [if_pos hs] at hH
        refine den_of_body k_ref36_DecodeRequest ⟨rfl, Nat.le_of_ble_eq_true rfl, thaw_intro ?_⟩
        unfold c_ref36_DecodeRequest
        simp only [go_sem]
        refine t_call_intro (hH) ?_
        simp only [z00, go_sem]
        refine t_call_intro (hA) ?_
        simp only [nV, go_sem]
        refine t_call_intro (hB) ?_
        simp only [nD, go_sem]
        refine t_call_intro (hR) ?_
        simp only [n_, reqZ, go_sem]
        simp only [aresult, ares, go_sem]
      · rw [if_neg hs] at hH
        refine den_of_body k_ref36_DecodeRequest ⟨rfl, Nat.le_of_ble_eq_true rfl, thaw_intro ?_⟩
        unfold c_ref36_DecodeRequest
        simp only [go_sem]
        refine t_call_intro (hH) ?_
        simp only [z00, go_sem]
        refine t_call_intro (hA) ?_
        simp only [nV, go_sem]
        refine t_call_intro (hB) ?_
        simp only [nD, go_sem]
        refine t_call_intro (hR) ?_
        simp only [n_, reqZ, go_sem]
        simp only [aresult, ares, go_sem]
  
    have nR : ((rqR L at_).2.2 != 0) = false := by simpa using zR
    rw [eR0.2 zR] at hR
    have eW : rqW L at_ = rdKs L (rqR L at_).2.1 0 := by unfold rqW rdFt; rw [if_pos hd, zR]
    have eW0 := rkKs_st L (rqR L at_).2.1
    rw [← eW] at eW0
    have hW := hK0 (rqR L at_).2.1
    rw [eW0.1] at hW
    by_cases zW : (rqW L at_).2.2 = 0
    rotate_left
    · have n_ : ((rqW L at_).2.2 != 0) = true := by simpa using zW
      have ez := (rfl : (rqW L at_).2.2 = (rqW L at_).2.2)
      have er : decReqN L at_ = .tup [.agg reqZ, .a (.int .i64 0), .a (.int .i64 (rqW L at_).2.2)] := by unfold decReqN; rw [if_pos (by rw [ez]; exact zW), ez]
      rw [er]
      by_cases hs : smallR L at_ = true
      · rw [if_pos hs] at hH
        refine den_of_body k_ref36_DecodeRequest ⟨rfl, Nat.le_of_ble_eq_true rfl, thaw_intro ?_⟩
        unfold c_ref36_DecodeRequest
        simp only [go_sem]
        refine t_call_intro (hH) ?_
        simp only [z00, go_sem]
        refine t_call_intro (hA) ?_
        simp only [nV, go_sem]
        refine t_call_intro (hB) ?_
        simp only [nD, go_sem]
        refine t_call_intro (hR) ?_
        simp only [nR, go_sem]
        refine t_call_intro (hW) ?_
        simp only [n_, reqZ, go_sem]
        simp only [aresult, ares, go_sem]
      · rw [if_neg hs] at hH
        refine den_of_body k_ref36_DecodeRequest ⟨rfl, Nat.le_of_ble_eq_true rfl, thaw_intro ?_⟩
        unfold c_ref36_DecodeRequest
        simp only [go_sem]
        refine t_call_intro (hH) ?_
        simp only [z00, go_sem]
        refine t_call_intro (hA) ?_
        simp only [nV, go_sem]
        refine t_call_intro (hB) ?_
        simp only [nD, go_sem]
        refine t_call_intro (hR) ?_
        simp only [nR, go_sem]
        refine t_call_intro (hW) ?_
        simp only [n_, reqZ, go_sem]
        simp only [aresult, ares, go_sem]
  
    have nW : ((rqW L at_).2.2 != 0) = false := by simpa using zW
    rw [eW0.2 zW] at hW
    by_cases hs : smallR L at_ = true
    rotate_left
    · have hlim : 32 < (rqU1 L at_).1 ∨ 1099511627776 < (rqU2 L at_).1 := by
        simp only [smallR, Bool.and_eq_true, decide_eq_true_eq] at hs; omega
      have er : decReqN L at_ = .tup [.agg reqZ, .a (.int .i64 0), .a (.int .i64 5)] := by unfold decReqN; rw [if_neg (by simpa using zW), if_pos hlim]
      rw [if_neg hs] at hH
      rw [er]
      refine den_of_body k_ref36_DecodeRequest ⟨rfl, Nat.le_of_ble_eq_true rfl, thaw_intro ?_⟩
      unfold c_ref36_DecodeRequest
      simp only [go_sem]
      refine t_call_intro (hH) ?_
      simp only [z00, go_sem]
      refine t_call_intro (hA) ?_
      simp only [nV, go_sem]
      refine t_call_intro (hB) ?_
      simp only [nD, hd, go_sem]
      refine t_call_intro (hR) ?_
      simp only [nR, go_sem]
      refine t_call_intro (hW) ?_
      simp only [nW, go_sem]
      simp only [reqZ, go_sem]
      simp only [aresult, ares, go_sem]
    have hl1 : (rqU1 L at_).1 ≤ 32 := by simp only [smallR, Bool.and_eq_true, decide_eq_true_eq] at hs; exact hs.1
    have hl2 : (rqU2 L at_).1 ≤ 1099511627776 := by simp only [smallR, Bool.and_eq_true, decide_eq_true_eq] at hs; exact hs.2
    rw [if_pos hs] at hH
    have hE : PDen Try.prog 13 [.agg [.int .i64 (rqU1 L at_).1, .int .i64 (rqU2 L at_).1, .str ⟨(rqP L at_).1.toArray⟩, .slice 3 ((rqV L at_).1.map Vl.row), .bool true, .bool false, .slice 1 ((rqR L at_).1.map sRow), .slice 1 ((rqW L at_).1.map sRow)]] (.a (.int .i64 (reqE (rqX L at_)))) := by
      have h := rreqE_den (rqX L at_) (rqX_fit L at_ hlen)
      rw [rowr] at h
      have e : (rqX L at_).dc = true := hd
      rw [e] at h
      exact h
    by_cases hr : reqE (rqX L at_) = 0
    · have er : decReqN L at_ = .tup [.agg (rowN (rqX L at_)), .a (.int .i64 (rqW L at_).2.1), .a (.int .i64 0)] := by
        unfold decReqN; rw [if_neg (by simpa using zW), if_neg (by omega), if_neg (by simpa using hr)]
      have eN : rowN (rqX L at_) = [.int .i64 (rqU1 L at_).1, .int .i64 (rqU2 L at_).1, .str ⟨(rqP L at_).1.toArray⟩, .slice 3 ((rqV L at_).1.map Vl.row), .bool true, .bool false, .slice 1 ((rqR L at_).1.map sRow), .slice 1 ((rqW L at_).1.map sRow)] := by
        unfold rowN
        rw [if_pos (show (rqX L at_).dc = true from hd), if_pos (show (rqX L at_).dc = true from hd)]
        show [_, _, _, _, Atom.bool (rqD L at_).1, _, _, _] = _
        rw [hd]
        rfl
      have nE : (reqE (rqX L at_) != 0) = false := by simp [hr]
      rw [er, eN]
      refine den_of_body k_ref36_DecodeRequest ⟨rfl, Nat.le_of_ble_eq_true rfl, thaw_intro ?_⟩
      unfold c_ref36_DecodeRequest
      simp only [go_sem]
      refine t_call_intro (hH) ?_
      simp only [z00, go_sem]
      refine t_call_intro (hA) ?_
      simp only [nV, go_sem]
      refine t_call_intro (hB) ?_
      simp only [nD, hd, go_sem]
      refine t_call_intro (hR) ?_
      simp only [nR, go_sem]
      refine t_call_intro (hW) ?_
      simp only [nW, go_sem]
      refine t_call_intro (hE) ?_
      simp only [nE, z8, go_sem]
      simp only [aresult, ares, go_sem]
    · have er : decReqN L at_ = .tup [.agg reqZ, .a (.int .i64 0), .a (.int .i64 5)] := by
        unfold decReqN; rw [if_neg (by simpa using zW), if_neg (by omega), if_pos hr]
      have nE : (reqE (rqX L at_) != 0) = true := by simpa using hr
      rw [er]
      refine den_of_body k_ref36_DecodeRequest ⟨rfl, Nat.le_of_ble_eq_true rfl, thaw_intro ?_⟩
      unfold c_ref36_DecodeRequest
      simp only [go_sem]
      refine t_call_intro (hH) ?_
      simp only [z00, go_sem]
      refine t_call_intro (hA) ?_
      simp only [nV, go_sem]
      refine t_call_intro (hB) ?_
      simp only [nD, hd, go_sem]
      refine t_call_intro (hR) ?_
      simp only [nR, go_sem]
      refine t_call_intro (hW) ?_
      simp only [nW, go_sem]
      refine t_call_intro (hE) ?_
      simp only [nE, reqZ, go_sem]
      simp only [aresult, ares, go_sem]
  | false =>
    rw [hd] at hB
    have hd0 : ¬ (rqD L at_).1 = true := by rw [hd]; simp
    have eR : rqR L at_ = ([], (rqD L at_).2.1, (rqD L at_).2.2) := by unfold rqR rdFt; rw [if_neg hd0]
    have eW : rqW L at_ = ([], (rqR L at_).2.1, (rqR L at_).2.2) := by unfold rqW rdFt; rw [if_neg hd0]
    have eW2 : (rqD L at_).2.2 = (rqW L at_).2.2 := by rw [eW, eR]
    have eW1 : (rqD L at_).2.1 = (rqW L at_).2.1 := by rw [eW, eR]
    have zW : (rqW L at_).2.2 = 0 := by rw [← eW2]; exact zD
    rw [eW1] at hB
    by_cases hs : smallR L at_ = true
    rotate_left
    · have hlim : 32 < (rqU1 L at_).1 ∨ 1099511627776 < (rqU2 L at_).1 := by
        simp only [smallR, Bool.and_eq_true, decide_eq_true_eq] at hs; omega
      have er : decReqN L at_ = .tup [.agg reqZ, .a (.int .i64 0), .a (.int .i64 5)] := by unfold decReqN; rw [if_neg (by simpa using zW), if_pos hlim]
      rw [if_neg hs] at hH
      rw [er]
      refine den_of_body k_ref36_DecodeRequest ⟨rfl, Nat.le_of_ble_eq_true rfl, thaw_intro ?_⟩
      unfold c_ref36_DecodeRequest
      simp only [go_sem]
      refine t_call_intro (hH) ?_
      simp only [z00, go_sem]
      refine t_call_intro (hA) ?_
      simp only [nV, go_sem]
      refine t_call_intro (hB) ?_
      simp only [nD, hd, go_sem]
      simp only [reqZ, go_sem]
      simp only [aresult, ares, go_sem]
    have hl1 : (rqU1 L at_).1 ≤ 32 := by simp only [smallR, Bool.and_eq_true, decide_eq_true_eq] at hs; exact hs.1
    have hl2 : (rqU2 L at_).1 ≤ 1099511627776 := by simp only [smallR, Bool.and_eq_true, decide_eq_true_eq] at hs; exact hs.2
    rw [if_pos hs] at hH
    have hE : PDen Try.prog 13 [.agg [.int .i64 (rqU1 L at_).1, .int .i64 (rqU2 L at_).1, .str ⟨(rqP L at_).1.toArray⟩, .slice 3 ((rqV L at_).1.map Vl.row), .bool false, .bool false, .nils, .nils]] (.a (.int .i64 (reqE (rqX L at_)))) := by
      have h := rreqE_den (rqX L at_) (rqX_fit L at_ hlen)
      refine h.args ⟨VLe.agg ?_, trivial⟩
      have e1 : (rqX L at_).rd = [] := congrArg Prod.fst eR
      have e2 : (rqX L at_).wt = [] := congrArg Prod.fst eW
      have e3 : (rqX L at_).dc = false := hd
      unfold Req.row
      rw [e1, e2, e3]
      exact ⟨RLe.refl _, RLe.refl _, RLe.refl _, RLe.refl _, RLe.refl _, RLe.refl _, RLe.nils 1, RLe.nils 1, trivial⟩
    by_cases hr : reqE (rqX L at_) = 0
    · have er : decReqN L at_ = .tup [.agg (rowN (rqX L at_)), .a (.int .i64 (rqW L at_).2.1), .a (.int .i64 0)] := by
        unfold decReqN; rw [if_neg (by simpa using zW), if_neg (by omega), if_neg (by simpa using hr)]
      have eN : rowN (rqX L at_) = [.int .i64 (rqU1 L at_).1, .int .i64 (rqU2 L at_).1, .str ⟨(rqP L at_).1.toArray⟩, .slice 3 ((rqV L at_).1.map Vl.row), .bool false, .bool false, .nils, .nils] := by
        unfold rowN
        rw [if_neg (show ¬ (rqX L at_).dc = true from hd0), if_neg (show ¬ (rqX L at_).dc = true from hd0)]
        show [_, _, _, _, Atom.bool (rqD L at_).1, _, _, _] = _
        rw [hd]
        rfl
      have nE : (reqE (rqX L at_) != 0) = false := by simp [hr]
      rw [er, eN]
      refine den_of_body k_ref36_DecodeRequest ⟨rfl, Nat.le_of_ble_eq_true rfl, thaw_intro ?_⟩
      unfold c_ref36_DecodeRequest
      simp only [go_sem]
      refine t_call_intro (hH) ?_
      simp only [z00, go_sem]
      refine t_call_intro (hA) ?_
      simp only [nV, go_sem]
      refine t_call_intro (hB) ?_
      simp only [nD, hd, go_sem]
      refine t_call_intro (hE) ?_
      simp only [nE, z8, go_sem]
      simp only [aresult, ares, go_sem]
    · have er : decReqN L at_ = .tup [.agg reqZ, .a (.int .i64 0), .a (.int .i64 5)] := by
        unfold decReqN; rw [if_neg (by simpa using zW), if_neg (by omega), if_pos hr]
      have nE : (reqE (rqX L at_) != 0) = true := by simpa using hr
      rw [er]
      refine den_of_body k_ref36_DecodeRequest ⟨rfl, Nat.le_of_ble_eq_true rfl, thaw_intro ?_⟩
      unfold c_ref36_DecodeRequest
      simp only [go_sem]
      refine t_call_intro (hH) ?_
      simp only [z00, go_sem]
      refine t_call_intro (hA) ?_
      simp only [nV, go_sem]
      refine t_call_intro (hB) ?_
      simp only [nD, hd, go_sem]
      refine t_call_intro (hE) ?_
      simp only [nE, reqZ, go_sem]
      simp only [aresult, ares, go_sem]
theorem rdecReq_den (s : ByteArray) (at_ : Int) (hs0 : s.size ≤ 1073741824) : PDen Try.prog 17 [.a (.str s), .a (.int .i64 at_)] (decReqV (decReq s.data.toList at_)) := (rdecReq_N s at_ hs0).le (decReqN_le _ _)

end Go.Proofs.Ytalebiebdmidoaa
