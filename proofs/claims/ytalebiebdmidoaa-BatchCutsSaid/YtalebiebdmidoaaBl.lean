/- The decoding of the reference: lists of requests. -/
import Derived.Test.YtalebiebdmidoaaBk
namespace Go.Proofs.Ytalebiebdmidoaa
open Go Ab Go.RowKit
attribute [local irreducible] awp aops aop asoft aeff aloop acall acallI acallT
attribute [local go_sem] Vl.row sRow

set_option maxRecDepth 100000 in
set_option maxHeartbeats 4000000 in
theorem rdecReqs_N (s : ByteArray) (at_ : Int) (hs0 : s.size ≤ 1073741824) : PDen Try.prog 24 [.a (.str s), .a (.int .i64 at_)] (decReqsN s.data.toList at_) := by
  have hC := rtakecount_den s at_ 64 hs0 (by omega)
  have hD := fun a' => rdecReq_den s a' hs0
  generalize hL : s.data.toList = L at hC hD ⊢
  have hn := rqC64_le L at_
  have eC : takeCV L at_ 64 = .tup [.a (.int .i64 (rqC64 L at_).1), .a (.int .i64 (rqC64 L at_).2.1), .a (.int .i64 (rqC64 L at_).2.2)] := rfl
  rw [eC] at hC
  unfold decReqsN
  generalize rqC64 L at_ = C at hC hn ⊢
  obtain ⟨n, a1, e1⟩ := C
  simp only [] at hC hn ⊢
  refine den_of_body k_ref36_Decode ⟨rfl, Nat.le_of_ble_eq_true rfl, thaw_intro ?_⟩
  unfold c_ref36_Decode
  simp only [go_sem]
  refine t_call_intro (hC) ?_
  by_cases he1 : e1 = 0
  rotate_left
  · have n1 : (e1 != 0) = true := by simpa using he1
    rw [if_pos he1]
    simp only [n1, go_sem]
    simp only [aresult, ares, go_sem]
  have n1 : (e1 != 0) = false := by simpa using he1
  rw [if_neg (by simpa using he1)]
  simp only [n1, go_sem]
  refine t_loopO_intro [.slot 9 27 8] (fun k : Nat => k ≤ n ∧ ((rsSt L a1 k).2.2 = 0 ∧ (rsSt L a1 k).1.length = k)) (fun k => n - k) 0 [1, 4, 5, 6, 9, 10, 11, 12, 13, 24, 25, 26, 27, 28, 29, 30, 31, 32, 33, 34, 35, 36, 37, 38, 39, 40, 41, 42, 43] (fun k => [(1, .a (.int .i64 (rsSt L a1 k).2.1)), (9, .own 0), (14, .any), (17, .any), (10, .a (.int .i64 k))]) (fun k => []) (fun k => [⟨27, 8, (rsSt L a1 k).1.map Req.row, false⟩]) ⟨by omega, by exact ⟨rfl, rfl⟩⟩ (by simp) (by first | (simp; done) | simp [rsSt]) (by first | (simp; done) | simp [rsSt]) (by first | (simp; done) | simp [rsSt]) (fun k => by first | (simp; done) | simp [rsSt]) (fun k => by first | (simp; done) | simp [rsSt]) (fun k => by first | (simp; done) | simp [rsSt]) ?_
  intro k hk0 st_ hst
  have hk : k ≤ n := hk0.1
  have hall := hk0.2
  clear hk0
  simp only [go_sem] at hst
  subst hst
  by_cases hlt : k < n
  · have h1 : (k : Int) < (n : Int) := by omega
    have ew := wrap1 k n hlt (by omega)
    obtain ⟨g1, g2⟩ := hall
    have es := rsSt_ok L a1 k g1
    have hd := hD (rsSt L a1 k).2.1
    unfold decReqV at hd
    rw [rowr] at hd
    generalize hx : decReq L (rsSt L a1 k).2.1 = X at hd es
    obtain ⟨x, a2, e2⟩ := X
    simp only [] at hd es
    simp only [h1, go_sem]
    refine t_call_intro (hd) ?_
    by_cases he2 : e2 = 0
    · have n2 : (e2 != 0) = false := by simpa using he2
      have eo : (rsSt L a1 k).1.map Req.row ++ [[.int .i64 x.cl, .int .i64 x.sq, .str x.pr, .slice 3 (x.args.map Vl.row), .bool x.dc, .bool x.al, .slice 1 (x.rd.map sRow), .slice 1 (x.wt.map sRow)]] = (rsSt L a1 (k + 1)).1.map Req.row := by rw [es]; simp [rowr]
      have ea : (rsSt L a1 (k + 1)).2.1 = a2 := by rw [es]
      simp only [n2, go_sem]
      refine t_gate_intro (by first | omega | (simp; omega)) ?_
      simp only [eo, ew, go_sem]
      refine t_roundO (k + 1) ⟨by omega, ⟨by rw [es]; exact he2, by rw [es]; simp [g2]⟩⟩ (by omega) (by first | (simp; done) | simp [ea]) (by first | (simp; done) | simp [ea]) (by first | (simp; done) | simp [ea]) (by first | (simp; done) | simp [ea]) (by first | (simp; done) | simp [ea])
    · have n2 : (e2 != 0) = true := by simpa using he2
      have ef : rsSt L a1 n = rsSt L a1 (k + 1) := rsSt_err L a1 (k + 1) (by rw [es]; exact he2) n (by omega)
      have e3 : (rsSt L a1 n).2.2 = e2 := by rw [ef, es]
      rw [if_pos (by rw [e3]; exact he2), e3]
      simp only [n2, go_sem]
      simp only [aresult, ares, go_sem]
  · have h1 : ¬ (k : Int) < (n : Int) := by omega
    have hke : k = n := by omega
    subst hke
    rw [if_neg (by simp [hall.1])]
    simp only [h1, go_sem]
    simp only [aresult, ares, go_sem]
theorem rdecReqs_den (s : ByteArray) (at_ : Int) (hs0 : s.size ≤ 1073741824) : PDen Try.prog 24 [.a (.str s), .a (.int .i64 at_)] (decReqsV (decReqs s.data.toList at_)) := (rdecReqs_N s at_ hs0).le (decReqsN_le _ _)
end Go.Proofs.Ytalebiebdmidoaa
