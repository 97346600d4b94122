/- DecodeRequest: what it computes. -/
import Derived.Test.YtemeiopghbpamaaBg
set_option linter.unusedSimpArgs false
set_option linter.unusedVariables false
namespace Go.Proofs.Ytemeiopghbpamaa
open Go Ab Go.RowKit
attribute [local irreducible] awp aops aop asoft aeff aloop acall acallI acallT acallK
attribute [local go_sem] sRow Vl.row

def reqZ : List Atom := [.int .i64 0, .int .i64 0, .str ⟨#[]⟩, .nils, .bool false, .bool false, .nils, .nils]
def rowN (r : Req) : List Atom := [.int .i64 r.cl, .int .i64 r.sq, .str r.pr, .slice 3 (r.args.map Vl.row), .bool r.dc, .bool r.al, if r.dc = true then .slice 1 (r.rd.map sRow) else .nils, if r.dc = true then .slice 1 (r.wt.map sRow) else .nils]
def rqC (l : List UInt8) (a : Int) := rdC l 6 (rqP l a).2.1 (rqP l a).2.2
def decReqN (l : List UInt8) (a : Int) : AV :=
  if (rqW l a).2.2 ≠ 0 then .tup [.agg reqZ, .a (.int .i64 0), .a (.int .i64 (rqW l a).2.2)]
  else if 32 < (rqU1 l a).1 ∨ 1099511627776 < (rqU2 l a).1 then .tup [.agg reqZ, .a (.int .i64 0), .a (.int .i64 5)]
  else if reqE (rqX l a) ≠ 0 then .tup [.agg reqZ, .a (.int .i64 0), .a (.int .i64 5)] else .tup [.agg (rowN (rqX l a)), .a (.int .i64 (rqW l a).2.1), .a (.int .i64 0)]
def xc (pr : ByteArray) (v : AV) (d : Bool) (x y : AV) : List AV := [.a (.int .i64 0), .a (.int .i64 0), .a (.str pr), v, .a (.bool d), .a (.bool false), x, y]
def z8 : List AV := [.a (.int .i64 0), .a (.int .i64 0), .a (.str ⟨#[]⟩), .a .nils, .a (.bool false), .a (.bool false), .a .nils, .a .nils]
attribute [local simp] xc z8 rdr in
set_option maxRecDepth 100000 in
set_option maxHeartbeats 4000000 in
theorem decReq_N (s : ByteArray) (at_ : Int) (hs0 : s.size ≤ 1073741824) : PDen Try.prog 13 [.a (.str s), .a (.int .i64 at_)] (decReqN s.data.toList at_) := by
  have hlen : s.data.toList.length ≤ 1073741824 := by rw [dsize]; exact hs0
  generalize hL : s.data.toList = L at hlen ⊢
  have c1 : IDen Try.prog 29 [.loc 1 0] [z8, rdr s at_ 0] [] (.a (.int .u64 (rqU1 L at_).1)) [z8, rdr s (rqU1 L at_).2.1 (rqU1 L at_).2.2] [] true := by
    have := number_iden (h0 := z8) (hs := []) (O := []) s at_ 0 hs0 rfl
    rw [hL] at this; exact this
  have c2 : IDen Try.prog 29 [.loc 1 0] [z8, rdr s (rqU1 L at_).2.1 (rqU1 L at_).2.2] [] (.a (.int .u64 (rqU2 L at_).1)) [z8, rdr s (rqU2 L at_).2.1 (rqU2 L at_).2.2] [] true := by
    have := number_iden (h0 := z8) (hs := []) (O := []) s (rqU1 L at_).2.1 (rqU1 L at_).2.2 hs0 rfl
    rw [hL] at this; exact this
  have c3 : IDen Try.prog 30 [.loc 1 0, .a (.int .i64 16)] [z8, rdr s (rqU2 L at_).2.1 (rqU2 L at_).2.2] [] (.a (.str ⟨(rqP L at_).1.toArray⟩)) [z8, rdr s (rqP L at_).2.1 (rqP L at_).2.2] [] true := by
    have := text_iden (h0 := z8) (hs := []) (O := []) s 16 (rqU2 L at_).2.1 (rqU2 L at_).2.2 hs0 (by omega) rfl
    rw [hL] at this; exact this
  refine den_of_body k_batch_DecodeRequest ⟨rfl, Nat.le_of_ble_eq_true rfl, thaw_intro ?_⟩
  unfold c_batch_DecodeRequest
  simp only [go_sem]
  refine t_callI_intro c1 ?_
  simp only [go_sem]
  refine t_callI_intro c2 ?_
  simp only [go_sem]
  refine t_callI_intro c3 ?_
  simp only [go_sem]
  have c4 : IDen Try.prog 31 [.loc 1 0, .a (.int .i64 6)] [z8, rdr s (rqP L at_).2.1 (rqP L at_).2.2, xc ⟨(rqP L at_).1.toArray⟩ (.a .nils) false (.a .nils) (.a .nils)] [] (.a (.int .i64 (rqC L at_).1)) [z8, rdr s (rqC L at_).2.1 (rqC L at_).2.2, xc ⟨(rqP L at_).1.toArray⟩ (.a .nils) false (.a .nils) (.a .nils)] [] true := by
    have := count_iden (h0 := z8) (hs := [xc ⟨(rqP L at_).1.toArray⟩ (.a .nils) false (.a .nils) (.a .nils)]) (O := []) s 6 (rqP L at_).2.1 (rqP L at_).2.2 hs0 (by omega) rfl
    rw [hL] at this; exact this
  refine t_callI_intro c4 ?_
  simp only [go_sem]
  have hn : ((rqC L at_).1 : Int) ≤ 6 := rdC_le L 6 _ _ (by omega)
  have eV : rqV L at_ = vsSt L (rqC L at_).2.1 (rqC L at_).2.2 (rqC L at_).1 := rfl
  generalize hC : rqC L at_ = C at hn eV
  obtain ⟨n, a1, e1⟩ := C
  simp only [] at hn eV
  refine t_loopO_intro [.cell 2 3 47 3] (fun k : Nat => k ≤ n) (fun k => n - k) 0 [24, 25, 26, 27, 28, 29, 30, 31, 32, 33] (fun k => [(24, .a (.int .i64 k))]) (fun k => [z8, rdr s (vsSt L a1 e1 k).2.1 (vsSt L a1 e1 k).2.2, xc ⟨(rqP L at_).1.toArray⟩ (.own 0) false (.a .nils) (.a .nils)]) (fun k => [⟨47, 3, (vsSt L a1 e1 k).1.map Vl.row, false⟩]) (by omega) (by simp) (by first | (simp; done) | simp [rdr, z8, xc, vsSt, Ab.boundV, boundS]) (by first | (simp; done) | simp [rdr, z8, xc, vsSt, Ab.boundV, boundS]) (by first | (simp; done) | simp [rdr, z8, xc, vsSt, Ab.boundV, boundS]) (fun k => by first | (simp; done) | simp [rdr, z8, xc, vsSt, Ab.boundV, boundS]) (fun k => by first | (simp; done) | simp [rdr, z8, xc, vsSt, Ab.boundV, boundS]) (fun k => by first | (simp; done) | simp [rdr, z8, xc, vsSt, Ab.boundV, boundS]) ?_
  intro k hk st_ hst
  simp only [go_sem] at hst
  subst hst
  by_cases hlt : k < n
  · have h3 : (k : Int) < (n : Int) := by omega
    have ekn := wrap1 k n hlt (by omega)
    have hv : IDen Try.prog 32 [.loc 1 0] [z8, rdr s (vsSt L a1 e1 k).2.1 (vsSt L a1 e1 k).2.2, xc ⟨(rqP L at_).1.toArray⟩ (.own 0) false (.a .nils) (.a .nils)] [⟨47, 3, (vsSt L a1 e1 k).1.map Vl.row, false⟩] (.agg (rdV L (vsSt L a1 e1 k).2.1 (vsSt L a1 e1 k).2.2).1.row) [z8, rdr s (vsSt L a1 e1 (k + 1)).2.1 (vsSt L a1 e1 (k + 1)).2.2, xc ⟨(rqP L at_).1.toArray⟩ (.own 0) false (.a .nils) (.a .nils)] [⟨47, 3, (vsSt L a1 e1 k).1.map Vl.row, false⟩] true := by
      have := value_iden (h0 := z8) (h2 := xc ⟨(rqP L at_).1.toArray⟩ (.own 0) false (.a .nils) (.a .nils)) (O := [⟨47, 3, (vsSt L a1 e1 k).1.map Vl.row, false⟩]) s (vsSt L a1 e1 k).2.1 (vsSt L a1 e1 k).2.2 hs0 rfl
      rw [hL] at this; exact this
    have eo : (vsSt L a1 e1 k).1.map Vl.row ++ [[.int .i64 (rdV L (vsSt L a1 e1 k).2.1 (vsSt L a1 e1 k).2.2).1.kind, .int .i64 (rdV L (vsSt L a1 e1 k).2.1 (vsSt L a1 e1 k).2.2).1.n, .str (rdV L (vsSt L a1 e1 k).2.1 (vsSt L a1 e1 k).2.2).1.s]] = (vsSt L a1 e1 (k + 1)).1.map Vl.row := by simp [vsSt, Vl.row]
    have em := vsSt_len L a1 e1 k
    simp only [h3, go_sem]
    refine t_two_intro ?_ ?_
    · simp only [xc, go_sem]
      refine t_callK_intro hv (by simp) ?_
      simp only [xc, go_sem]
      refine t_gate_intro (by rw [em]; omega) ?_
      simp only [ekn, eo, go_sem]
      refine t_roundO (k + 1) (by omega) (by omega) (by first | (simp; done) | simp [Ab.inval]) (by first | (simp; done) | simp [Ab.inval]) (by first | (simp; done) | simp [Ab.inval]) (by first | (simp; done) | simp [Ab.inval]) (by first | (simp; done) | simp [Ab.inval])
    · simp only [xc, go_sem]
      refine t_callK_intro hv (by simp) ?_
      simp only [xc, go_sem]
      refine t_gate_intro (by rw [em]; omega) ?_
      simp only [ekn, eo, go_sem]
      refine t_roundO (k + 1) (by omega) (by omega) (by first | (simp; done) | simp [Ab.inval]) (by first | (simp; done) | simp [Ab.inval]) (by first | (simp; done) | simp [Ab.inval]) (by first | (simp; done) | simp [Ab.inval]) (by first | (simp; done) | simp [Ab.inval])
  · have h3 : ¬ (k : Int) < (n : Int) := by omega
    have hke : k = n := by omega
    subst hke
    rw [← eV]
    simp only [h3, go_sem]
    have cF : IDen Try.prog 33 [.loc 1 0] [z8, rdr s (rqV L at_).2.1 (rqV L at_).2.2, xc ⟨(rqP L at_).1.toArray⟩ (.own 0) false (.a .nils) (.a .nils)] [⟨47, 3, (rqV L at_).1.map Vl.row, false⟩] (.a (.bool (rqD L at_).1)) [z8, rdr s (rqD L at_).2.1 (rqD L at_).2.2, xc ⟨(rqP L at_).1.toArray⟩ (.own 0) false (.a .nils) (.a .nils)] [⟨47, 3, (rqV L at_).1.map Vl.row, false⟩] true := by
      have := flag_iden (h0 := z8) (hs := [xc ⟨(rqP L at_).1.toArray⟩ (.own 0) false (.a .nils) (.a .nils)]) (O := [⟨47, 3, (rqV L at_).1.map Vl.row, false⟩]) s (rqV L at_).2.1 (rqV L at_).2.2 hs0 rfl
      rw [hL] at this; exact this
    refine t_callI_intro cF ?_
    simp only [xc, go_sem]
    first | refine t_case_dec (fun hd => ?_) (fun hd => ?_) | refine t_case_ndec (fun hd => ?_) (fun hd => ?_) | refine t_case_eqI (fun hd => ?_) (fun hd => ?_) | refine t_case_neI (fun hd => ?_) (fun hd => ?_) | refine t_case_not (fun hd => ?_) (fun hd => ?_) | refine t_case_intro (fun hd => ?_) (fun hd => ?_)
    · have eR : rqR L at_ = rdKs L (rqD L at_).2.1 (rqD L at_).2.2 := by unfold rqR rdFt; rw [if_pos hd]
      have eW : rqW L at_ = rdKs L (rqR L at_).2.1 (rqR L at_).2.2 := by unfold rqW rdFt; rw [if_pos hd]
      have cR : IDen Try.prog 34 [.loc 1 0] [z8, rdr s (rqD L at_).2.1 (rqD L at_).2.2, xc ⟨(rqP L at_).1.toArray⟩ (.own 0) (rqD L at_).1 (.a .nils) (.a .nils)] [⟨47, 3, (rqV L at_).1.map Vl.row, false⟩] (.own 1) [z8, rdr s (rqR L at_).2.1 (rqR L at_).2.2, xc ⟨(rqP L at_).1.toArray⟩ (.own 0) (rqD L at_).1 (.a .nils) (.a .nils)] [⟨47, 3, (rqV L at_).1.map Vl.row, false⟩, ⟨9, 1, (rqR L at_).1.map sRow, false⟩] false := by
        have := keys_iden (h0 := z8) (h2 := xc ⟨(rqP L at_).1.toArray⟩ (.own 0) (rqD L at_).1 (.a .nils) (.a .nils)) (O := [⟨47, 3, (rqV L at_).1.map Vl.row, false⟩]) s (rqD L at_).2.1 (rqD L at_).2.2 hs0 rfl rfl rfl
        rw [hL, ← eR] at this; exact this
      have cW : IDen Try.prog 34 [.loc 1 0] [z8, rdr s (rqR L at_).2.1 (rqR L at_).2.2, xc ⟨(rqP L at_).1.toArray⟩ (.own 0) (rqD L at_).1 (.own 1) (.a .nils)] [⟨47, 3, (rqV L at_).1.map Vl.row, false⟩, ⟨9, 1, (rqR L at_).1.map sRow, false⟩] (.own 2) [z8, rdr s (rqW L at_).2.1 (rqW L at_).2.2, xc ⟨(rqP L at_).1.toArray⟩ (.own 0) (rqD L at_).1 (.own 1) (.a .nils)] [⟨47, 3, (rqV L at_).1.map Vl.row, false⟩, ⟨9, 1, (rqR L at_).1.map sRow, false⟩, ⟨9, 1, (rqW L at_).1.map sRow, false⟩] false := by
        have := keys_iden (h0 := z8) (h2 := xc ⟨(rqP L at_).1.toArray⟩ (.own 0) (rqD L at_).1 (.own 1) (.a .nils)) (O := [⟨47, 3, (rqV L at_).1.map Vl.row, false⟩, ⟨9, 1, (rqR L at_).1.map sRow, false⟩]) s (rqR L at_).2.1 (rqR L at_).2.2 hs0 rfl rfl rfl
        rw [hL, ← eW] at this; exact this
      simp only [xc, go_sem]
      refine t_callI_intro cR ?_
      simp only [xc, go_sem]
      refine t_callI_intro cW ?_
      simp only [xc, rdr, go_sem]
      refine t_case_neI (fun he => ?_) (fun he => ?_)
      · by_cases h32 : (32 : Int) < ((rqU1 L at_).1 : Int)
        · have er : decReqN L at_ = .tup [.agg reqZ, .a (.int .i64 0), .a (.int .i64 5)] := by unfold decReqN; rw [if_neg (by simpa using he), if_pos (by omega)]
          rw [er]
          simp only [h32, z8, go_sem]
          simp only [aresult, ares, go_sem]
          rfl
        · by_cases h40 : (1099511627776 : Int) < ((rqU2 L at_).1 : Int)
          · have er : decReqN L at_ = .tup [.agg reqZ, .a (.int .i64 0), .a (.int .i64 5)] := by unfold decReqN; rw [if_neg (by simpa using he), if_pos (by omega)]
            rw [er]
            simp only [h32, h40, z8, go_sem]
            simp only [aresult, ares, go_sem]
            rfl
          · have ew1 : IntKind.i64.wrap ((rqU1 L at_).1 : Int) = ((rqU1 L at_).1 : Int) := by rw [IntKind.wrap_i64]; omega
            have ew2 : IntKind.i64.wrap ((rqU2 L at_).1 : Int) = ((rqU2 L at_).1 : Int) := by rw [IntKind.wrap_i64]; omega
            have hE : PDen Try.prog 17 [.agg [.int .i64 (rqU1 L at_).1, .int .i64 (rqU2 L at_).1, .str ⟨(rqP L at_).1.toArray⟩, .slice 3 ((rqV L at_).1.map Vl.row), .bool (rqD L at_).1, .bool false, .slice 1 ((rqR L at_).1.map sRow), .slice 1 ((rqW L at_).1.map sRow)]] (.a (.int .i64 (reqE (rqX L at_)))) := by
              exact reqE_den (rqX L at_) (rqX_fit L at_ hlen)
            simp only [h32, h40, ew1, ew2, go_sem]
            refine t_call_intro (hE) ?_
            simp only [go_sem]
            refine t_case_neI (fun hr => ?_) (fun hr => ?_)
            · have er : decReqN L at_ = .tup [.agg (rowN (rqX L at_)), .a (.int .i64 (rqW L at_).2.1), .a (.int .i64 0)] := by
                unfold decReqN; rw [if_neg (by simpa using he), if_neg (by omega), if_neg (by simpa using hr)]
              have eN : rowN (rqX L at_) = [.int .i64 (rqU1 L at_).1, .int .i64 (rqU2 L at_).1, .str ⟨(rqP L at_).1.toArray⟩, .slice 3 ((rqV L at_).1.map Vl.row), .bool (rqD L at_).1, .bool false, .slice 1 ((rqR L at_).1.map sRow), .slice 1 ((rqW L at_).1.map sRow)] := by
                unfold rowN
                rw [if_pos (show (rqX L at_).dc = true from hd), if_pos (show (rqX L at_).dc = true from hd)]
                rfl
              rw [er, eN]
              simp only [go_sem]
              refine t_two_intro ?_ ?_
              · simp only [z8, go_sem]
                simp only [aresult, ares, go_sem]
              · simp only [z8, go_sem]
                simp only [aresult, ares, go_sem]
            · have er : decReqN L at_ = .tup [.agg reqZ, .a (.int .i64 0), .a (.int .i64 5)] := by
                unfold decReqN; rw [if_neg (by simpa using he), if_neg (by omega), if_pos hr]
              rw [er]
              simp only [z8, go_sem]
              simp only [aresult, ares, go_sem]
              rfl
      · have er : decReqN L at_ = .tup [.agg reqZ, .a (.int .i64 0), .a (.int .i64 (rqW L at_).2.2)] := if_pos he
        rw [er]
        simp only [go_sem]
        refine t_two_intro ?_ ?_
        · simp only [z8, go_sem]
          simp only [aresult, ares, go_sem]
          rfl
        · simp only [z8, go_sem]
          simp only [aresult, ares, go_sem]
          rfl
    · have hd0 : ¬ (rqD L at_).1 = true := by rw [hd]; simp
      have eR : rqR L at_ = ([], (rqD L at_).2.1, (rqD L at_).2.2) := by unfold rqR rdFt; rw [if_neg hd0]
      have eW : rqW L at_ = ([], (rqR L at_).2.1, (rqR L at_).2.2) := by unfold rqW rdFt; rw [if_neg hd0]
      have eW2 : (rqD L at_).2.2 = (rqW L at_).2.2 := by rw [eW, eR]
      have eW1 : (rqD L at_).2.1 = (rqW L at_).2.1 := by rw [eW, eR]
      rw [eW1, eW2]
      simp only [xc, rdr, go_sem]
      refine t_case_neI (fun he => ?_) (fun he => ?_)
      · by_cases h32 : (32 : Int) < ((rqU1 L at_).1 : Int)
        · have er : decReqN L at_ = .tup [.agg reqZ, .a (.int .i64 0), .a (.int .i64 5)] := by unfold decReqN; rw [if_neg (by simpa using he), if_pos (by omega)]
          rw [er]
          simp only [h32, z8, go_sem]
          simp only [aresult, ares, go_sem]
          rfl
        · by_cases h40 : (1099511627776 : Int) < ((rqU2 L at_).1 : Int)
          · have er : decReqN L at_ = .tup [.agg reqZ, .a (.int .i64 0), .a (.int .i64 5)] := by unfold decReqN; rw [if_neg (by simpa using he), if_pos (by omega)]
            rw [er]
            simp only [h32, h40, z8, go_sem]
            simp only [aresult, ares, go_sem]
            rfl
          · have ew1 : IntKind.i64.wrap ((rqU1 L at_).1 : Int) = ((rqU1 L at_).1 : Int) := by rw [IntKind.wrap_i64]; omega
            have ew2 : IntKind.i64.wrap ((rqU2 L at_).1 : Int) = ((rqU2 L at_).1 : Int) := by rw [IntKind.wrap_i64]; omega
            have hE : PDen Try.prog 17 [.agg [.int .i64 (rqU1 L at_).1, .int .i64 (rqU2 L at_).1, .str ⟨(rqP L at_).1.toArray⟩, .slice 3 ((rqV L at_).1.map Vl.row), .bool (rqD L at_).1, .bool false, .nils, .nils]] (.a (.int .i64 (reqE (rqX L at_)))) := by
              have h := reqE_den (rqX L at_) (rqX_fit L at_ hlen)
              refine h.args ⟨VLe.agg ?_, trivial⟩
              have e1 : (rqX L at_).rd = [] := congrArg Prod.fst eR
              have e2 : (rqX L at_).wt = [] := congrArg Prod.fst eW
              unfold Req.row
              rw [e1, e2]
              exact ⟨RLe.refl _, RLe.refl _, RLe.refl _, RLe.refl _, RLe.refl _, RLe.refl _, RLe.nils 1, RLe.nils 1, trivial⟩
            simp only [h32, h40, ew1, ew2, go_sem]
            refine t_call_intro (hE) ?_
            simp only [go_sem]
            refine t_case_neI (fun hr => ?_) (fun hr => ?_)
            · have er : decReqN L at_ = .tup [.agg (rowN (rqX L at_)), .a (.int .i64 (rqW L at_).2.1), .a (.int .i64 0)] := by
                unfold decReqN; rw [if_neg (by simpa using he), if_neg (by omega), if_neg (by simpa using hr)]
              have eN : rowN (rqX L at_) = [.int .i64 (rqU1 L at_).1, .int .i64 (rqU2 L at_).1, .str ⟨(rqP L at_).1.toArray⟩, .slice 3 ((rqV L at_).1.map Vl.row), .bool (rqD L at_).1, .bool false, .nils, .nils] := by
                unfold rowN
                rw [if_neg (show ¬ (rqX L at_).dc = true from hd0), if_neg (show ¬ (rqX L at_).dc = true from hd0)]
                rfl
              rw [er, eN]
              simp only [go_sem]
              refine t_two_intro ?_ ?_
              · simp only [z8, go_sem]
                simp only [aresult, ares, go_sem]
              · simp only [z8, go_sem]
                simp only [aresult, ares, go_sem]
            · have er : decReqN L at_ = .tup [.agg reqZ, .a (.int .i64 0), .a (.int .i64 5)] := by
                unfold decReqN; rw [if_neg (by simpa using he), if_neg (by omega), if_pos hr]
              rw [er]
              simp only [z8, go_sem]
              simp only [aresult, ares, go_sem]
              rfl
      · have er : decReqN L at_ = .tup [.agg reqZ, .a (.int .i64 0), .a (.int .i64 (rqW L at_).2.2)] := if_pos he
        rw [er]
        simp only [go_sem]
        refine t_two_intro ?_ ?_
        · simp only [z8, go_sem]
          simp only [aresult, ares, go_sem]
          rfl
        · simp only [z8, go_sem]
          simp only [aresult, ares, go_sem]
          rfl
theorem req0_le : RLs reqZ req0.row := ⟨RLe.refl _, RLe.refl _, RLe.refl _, RLe.nils 3, RLe.refl _, RLe.refl _, RLe.nils 1, RLe.nils 1, trivial⟩
theorem rowN_le (r : Req) (h : r.dc = false → r.rd = [] ∧ r.wt = []) : RLs (rowN r) r.row := by
  unfold rowN
  split
  · exact RLs.refl _
  · rename_i hd
    obtain ⟨h1, h2⟩ := h (by simpa using hd)
    unfold Req.row
    rw [h1, h2]
    exact ⟨RLe.refl _, RLe.refl _, RLe.refl _, RLe.refl _, RLe.refl _, RLe.refl _, RLe.nils 1, RLe.nils 1, trivial⟩
theorem tup3_le {xs ys : List Atom} {a b : Atom} (h : RLs xs ys) : VLe (.tup [.agg xs, .a a, .a b]) (.tup [.agg ys, .a a, .a b]) := VLe.tup ⟨VLe.agg h, VLe.refl _, VLe.refl _, trivial⟩
theorem rqX_un (l : List UInt8) (a : Int) (hd : (rqX l a).dc = false) : (rqX l a).rd = [] ∧ (rqX l a).wt = [] := by
  have hd0 : ¬ (rqD l a).1 = true := by show ¬ (rqX l a).dc = true; rw [hd]; simp
  have e1 : rqR l a = ([], (rqD l a).2.1, (rqD l a).2.2) := by unfold rqR rdFt; rw [if_neg hd0]
  have e2 : rqW l a = ([], (rqR l a).2.1, (rqR l a).2.2) := by unfold rqW rdFt; rw [if_neg hd0]
  exact ⟨congrArg Prod.fst e1, congrArg Prod.fst e2⟩
theorem decReqN_le (l : List UInt8) (a : Int) : VLe (decReqN l a) (decReqV (decReq l a)) := by
  unfold decReqN decReqV decReq
  split
  · exact tup3_le req0_le
  · split
    · exact tup3_le req0_le
    · split
      · exact tup3_le req0_le
      · exact tup3_le (rowN_le _ (rqX_un l a))
theorem decReq_den (s : ByteArray) (at_ : Int) (hs0 : s.size ≤ 1073741824) : PDen Try.prog 13 [.a (.str s), .a (.int .i64 at_)] (decReqV (decReq s.data.toList at_)) := (decReq_N s at_ hs0).le (decReqN_le _ _)
end Go.Proofs.Ytemeiopghbpamaa
