/- Chapter 37: what equals itself; the examples. -/
import Derived.Test.YtbiongfnbbnndaaQf
import Derived.Test.YtbiongfnbbnndaaIx
import Derived.Test.YtbiongfnbbnndaaCodx
set_option linter.unusedSimpArgs false
set_option linter.unusedVariables false
namespace Go.Proofs.Ytbiongfnbbnndaa
open Go Ab Go.RowKit
set_option maxRecDepth 100000
attribute [local irreducible] awp aops aop asoft aeff aloop acall acallI acallT
attribute [local go_sem] Vl.row sRow fpRow Req.row Rpl.row Ses.row

theorem nn_int (a : Int) : (a != a) = false := by simp
theorem nn_self (v : Vl) : (v.kind == v.kind && (v.n == v.n && (v.s.toList == v.s.toList && true))) = true := by simp
set_option maxHeartbeats 2000000 in
theorem outcome_refl (st cd : Int) (out : List Vl) (hl : out.length ≤ 9223372036854775807) : PDen Try.prog 37 [.agg [.int .i64 st, .int .i64 cd, .slice 3 (out.map Vl.row)], .agg [.int .i64 st, .int .i64 cd, .slice 3 (out.map Vl.row)]] (.a (.bool true)) := by
  have n1 := nn_int st
  have n2 := nn_int cd
  have n3 := nn_int (out.length : Int)
  refine den_of_body k_ref37_Outcome ⟨rfl, Nat.le_of_ble_eq_true rfl, thaw_intro ?_⟩
  unfold c_ref37_Outcome
  simp only [n1, n2, n3, go_sem]
  refine t_loop_intro (fun k : Nat => k ≤ out.length) (fun k => out.length - k) 0 [4, 5, 27, 28, 29, 30, 31, 32, 33, 34, 35, 36, 37, 38, 39, 40, 41, 42, 43, 44] (fun k => [(5, .a (.int .i64 k))]) (by omega) (by simp) (fun k => by simp) rfl ?_
  intro k hk fr_ hfr
  simp only [go_sem] at hfr
  subst hfr
  by_cases hlt : k < out.length
  · have g1 : (k : Int) < (out.length : Int) := by omega
    have ew := wrap1 k out.length hlt hl
    have e := getD_map Vl.row out k hlt
    have er := vl_rw out[k]
    have es := nn_self out[k]
    simp only [g1, e, er, es, ew, go_sem]
    refine t_round (k + 1) (by omega) (by omega) (by simp) rfl rfl (by simp) rfl
  · have g1 : ¬ (k : Int) < (out.length : Int) := by omega
    simp only [g1, go_sem]
    simp only [aresult, ares, go_sem]
theorem reply_refl (r : Rpl) (hl : r.out.length ≤ 9223372036854775807) : PDen Try.prog 15 [.agg r.row, .agg r.row] (.a (.bool true)) := by
  have n1 : (r.cl == r.cl) = true := by simp
  have n2 : (r.sq == r.sq) = true := by simp
  rw [rpl_rw]
  refine den_of_body k_ref37_Reply ⟨rfl, Nat.le_of_ble_eq_true rfl, thaw_intro ?_⟩
  unfold c_ref37_Reply
  simp only [n1, n2, go_sem]
  refine t_call_intro (outcome_refl r.st r.cd r.out hl) ?_
  simp only [go_sem]
  simp only [aresult, ares, go_sem]
set_option maxHeartbeats 2000000 in
theorem replies_refl (l : List Rpl) (hl : l.length ≤ 9223372036854775807) (h : ∀ r ∈ l, r.out.length ≤ 9223372036854775807) : PDen Try.prog 18 [.a (.slice 5 (l.map Rpl.row)), .a (.slice 5 (l.map Rpl.row))] (.a (.bool true)) := by
  have n3 := nn_int (l.length : Int)
  refine den_of_body k_ref37_Replies ⟨rfl, Nat.le_of_ble_eq_true rfl, thaw_intro ?_⟩
  unfold c_ref37_Replies
  simp only [n3, go_sem]
  refine t_loop_intro (fun k : Nat => k ≤ l.length) (fun k => l.length - k) 0 [4, 5, 11, 12, 13, 14, 15, 16, 17, 18, 19, 20, 21, 22, 23, 24, 25, 26] (fun k => [(5, .a (.int .i64 k))]) (by omega) (by simp) (fun k => by simp) rfl ?_
  intro k hk fr_ hfr
  simp only [go_sem] at hfr
  subst hfr
  by_cases hlt : k < l.length
  · have g1 : (k : Int) < (l.length : Int) := by omega
    have ew := wrap1 k l.length hlt hl
    have e := getD_map Rpl.row l k hlt
    have er := rpl_rw l[k]
    have hd := reply_refl l[k] (h _ (List.getElem_mem hlt))
    rw [er] at hd
    simp only [g1, e, er, go_sem]
    refine t_call_intro (hd) ?_
    simp only [ew, go_sem]
    refine t_round (k + 1) (by omega) (by omega) (by simp) rfl rfl (by simp) rfl
  · have g1 : ¬ (k : Int) < (l.length : Int) := by omega
    simp only [g1, go_sem]
    simp only [aresult, ares, go_sem]
set_option maxHeartbeats 2000000 in
theorem sess_refl (l : List Ses) (hf : SesFit l) : PDen Try.prog 24 [.a (.slice 3 (l.map Ses.row)), .a (.slice 3 (l.map Ses.row))] (.a (.bool true)) := by
  have hl := hf.len
  have n3 := nn_int (l.length : Int)
  refine den_of_body k_ref37_Same ⟨rfl, Nat.le_of_ble_eq_true rfl, thaw_intro ?_⟩
  unfold c_ref37_Same
  simp only [n3, go_sem]
  refine t_loop_intro (fun k : Nat => k ≤ l.length) (fun k => l.length - k) 0 [4, 5, 11, 12, 13, 14, 15, 16, 17, 18, 19, 20, 21, 22, 23, 24, 25, 26, 27, 28, 29, 30, 31, 32, 33, 34, 35, 36, 37, 38, 39, 40, 41, 42, 43, 44, 45, 46, 47, 48, 49, 50, 51, 52, 53, 54] (fun k => [(5, .a (.int .i64 k))]) (by omega) (by simp) (fun k => by simp) rfl ?_
  intro k hk fr_ hfr
  simp only [go_sem] at hfr
  subst hfr
  by_cases hlt : k < l.length
  · have g1 : (k : Int) < (l.length : Int) := by omega
    have ew := wrap1 k l.length hlt (by omega)
    have e := getD_map Ses.row l k hlt
    have er := ses_rw l[k]
    have hs := hf.all _ (List.getElem_mem hlt)
    have hln := hs.len
    have hd := replies_refl l[k].rs (by omega) (fun r hr => (hs.all r hr).len)
    have n1 := nn_int l[k].cl
    have n2 := nn_int l[k].nx
    simp only [g1, e, er, n1, n2, go_sem]
    refine t_call_intro (hd) ?_
    simp only [ew, go_sem]
    refine t_round (k + 1) (by omega) (by omega) (by simp) rfl rfl (by simp) rfl
  · have g1 : ¬ (k : Int) < (l.length : Int) := by omega
    simp only [g1, go_sem]
    simp only [aresult, ares, go_sem]
set_option maxHeartbeats 2000000 in
theorem reqs_refl (l : List Req) (hl : l.length ≤ 9223372036854775807) (h : ∀ r ∈ l, r.fits) : PDen Try.prog 17 [.a (.slice 8 (l.map Req.row)), .a (.slice 8 (l.map Req.row))] (.a (.bool true)) := by
  have n3 := nn_int (l.length : Int)
  refine den_of_body k_law37_sameRequests ⟨rfl, Nat.le_of_ble_eq_true rfl, thaw_intro ?_⟩
  unfold c_law37_sameRequests
  simp only [n3, go_sem]
  refine t_loop_intro (fun k : Nat => k ≤ l.length) (fun k => l.length - k) 0 [4, 5, 11, 12, 13, 14, 15, 16, 17, 18, 19, 20, 21, 22, 23, 24, 25, 26] (fun k => [(5, .a (.int .i64 k))]) (by omega) (by simp) (fun k => by simp) rfl ?_
  intro k hk fr_ hfr
  simp only [go_sem] at hfr
  subst hfr
  by_cases hlt : k < l.length
  · have g1 : (k : Int) < (l.length : Int) := by omega
    have ew := wrap1 k l.length hlt hl
    have e := getD_map Req.row l k hlt
    have er := req_rw l[k]
    have hd := rsame_den l[k] l[k] (h _ (List.getElem_mem hlt))
    rw [er, reqEq_refl] at hd
    simp only [g1, e, er, go_sem]
    refine t_call_intro (hd) ?_
    simp only [ew, go_sem]
    refine t_round (k + 1) (by omega) (by omega) (by simp) rfl rfl (by simp) rfl
  · have g1 : ¬ (k : Int) < (l.length : Int) := by omega
    simp only [g1, go_sem]
    simp only [aresult, ares, go_sem]

/-! The examples -/
theorem commit_den : PDen Try.prog 12 [] (.agg [.int .i64 1, .int .i64 0, .nils]) := by
  refine den_of_body k_law37_commit ⟨rfl, Nat.le_of_ble_eq_true rfl, thaw_intro ?_⟩
  unfold c_law37_commit
  simp only [go_sem]
  simp only [aresult, ares, go_sem]
theorem sess_nil {f : FuncId} {bs : List AV} {r : AV} (h : PDen Try.prog f (.a (.slice 3 []) :: bs) r) : PDen Try.prog f (.a .nils :: bs) r := h.head (RLe.nils 3)
def exRp : Rpl := ⟨3, 1, 1, 0, []⟩
def exSes : Ses := ⟨3, 2, [exRp]⟩
theorem exO : PDen Try.prog 33 [.agg [.int .i64 1, .int .i64 0, .nils]] (.a (.bool true)) := by
  have h := outV_den 1 0 [] ⟨by decide, fun v hv => by simp at hv⟩
  exact h.args ⟨VLe.agg ⟨RLe.refl _, RLe.refl _, RLe.nils 3, trivial⟩, trivial⟩
theorem exC : PDen Try.prog 34 [.agg [.int .i64 3, .int .i64 1, .int .i64 1, .int .i64 0, .nils]] (.agg [.int .i64 3, .int .i64 1, .int .i64 1, .int .i64 0, .slice 3 []]) := by
  have h := cloneR_den exRp (by decide)
  exact h.args ⟨VLe.agg ⟨RLe.refl _, RLe.refl _, RLe.refl _, RLe.refl _, RLe.nils 3, trivial⟩, trivial⟩
set_option maxHeartbeats 4000000 in
theorem exRecord : PDen Try.prog 13 [.a .nils, .agg [.int .i64 3, .int .i64 1, .int .i64 1, .int .i64 0, .nils]] (.tup [.a (.slice 3 [exSes.row]), .a (.int .i64 0)]) := by
  have hf : SesFit [] := ⟨by decide, fun s hs => by simp at hs⟩
  have hv := sess_nil (sessV_den [] hf)
  have hn := sess_nil (next_den [] 3 (by decide) .nil)
  have hfd := sess_nil (findC_den [] 3 (by decide) .nil)
  have e1 : nextI [] 3 = 1 := rfl
  rw [e1] at hn
  change PDen _ _ _ (.a (.bool true)) at hv
  change PDen _ _ _ (.tup [.a (.int .i64 ((0 : Nat) : Int)), .a (.bool false)]) at hfd
  refine den_of_body k_session_Record_x ⟨rfl, Nat.le_of_ble_eq_true rfl, thaw_intro ?_⟩
  unfold c_session_Record_x
  simp only [go_sem]
  refine t_call_intro (hv) ?_
  simp only [go_sem]
  refine t_call_intro (exO) ?_
  simp only [go_sem]
  refine t_call_intro (hn) ?_
  have n11 : ((1 : Int) != 1) = false := rfl
  have n12 : ((1 : Int) == 1099511627776) = false := rfl
  have n00 : ¬ (0 : Int) < 0 := by decide
  simp only [n11, n12, go_sem]
  refine t_loop_intro (fun k : Nat => k ≤ 0) (fun k => 0 - k) 0 [6, 8, 9, 11, 46, 47, 48, 49, 50, 51, 52, 53, 54, 55, 56, 57, 58, 59, 60, 61, 62, 63, 64, 65, 66, 67, 68, 69, 70, 71, 72, 73, 74] (fun k => [(6, .a .nils), (46, .a (.int .i64 k))]) (by omega) (by simp) (fun k => by simp) rfl ?_
  intro k hk fr_ hfr
  simp only [go_sem] at hfr
  subst hfr
  by_cases hlt : k < 0
  · omega
  · have ek : k = 0 := by omega
    subst ek
    have n0 : ¬ ((0 : Nat) : Int) < 0 := by decide
    have z0 : ((0 : Nat) : Int) = 0 := rfl
    rw [z0] at hfd
    simp only [n0, go_sem]
    refine t_call_intro (hfd) ?_
    simp only [go_sem]
    have g01 : (0 : Int) < ((1 : Nat) : Int) := by decide
    have w2 : IntKind.i64.wrap (1 + 1) = 2 := by decide
    have w7 : IntKind.i64.wrap (((1 : Nat) : Int) - 8) = -7 := by decide
    refine t_callI_intro (ins_nil _ _ _) ?_
    simp only [g01, go_sem]
    refine t_call_intro (exC) ?_
    simp only [go_sem]
    refine t_gate_intro (by decide) ?_
    simp only [g01, w2, w7, go_sem]
    refine t_gate_intro (by decide) ?_
    simp only [aresult, ares, go_sem]
    refine t_gate_intro g01 ?_
    simp only [g01, go_sem]
    simp only [aresult, ares, go_sem]
    rfl
/-- The three requests of the examples. -/
def exQ (q : Int) : Req := ⟨3, q, ByteArray.mk #[], [], false, false, [], []⟩
theorem exQ_le (q : Int) : RLs [.int .i64 3, .int .i64 q, .str (ByteArray.mk #[]), .nils, .bool false, .bool false, .nils, .nils] (exQ q).row :=
  ⟨RLe.refl _, RLe.refl _, RLe.refl _, RLe.nils 3, RLe.refl _, RLe.refl _, RLe.nils 1, RLe.nils 1, trivial⟩
theorem exFit : SesFit [exSes] := ⟨by decide, fun s hs => by
  have e : s = exSes := by simpa using hs
  subst e
  exact ⟨by decide, fun r hr => by
    have e : r = exRp := by simpa [exSes] using hr
    subst e
    exact ⟨by decide, fun v hv => by simp [exRp] at hv⟩⟩⟩
theorem exBulk : SesBulk [exSes] := ⟨exFit, fun s hs => by
  have e : s = exSes := by simpa using hs
  subst e
  intro r hr
  have e : r = exRp := by simpa [exSes] using hr
  subst e
  decide⟩
theorem exReqs : ReqsOk [exQ 1, exQ 2, exQ 4] := ⟨by decide, fun r hr => by
  have : r = exQ 1 ∨ r = exQ 2 ∨ r = exQ 4 := by simpa using hr
  rcases this with h | h | h <;> (subst h; exact ⟨by decide, by decide, by decide⟩)⟩
theorem exExp : PDen Try.prog 19 [.a .nils, .a .nils, .a (.int .i64 3)] (.a (.int .i64 1)) := by
  have h := exp_den [] ⟨by decide, fun s hs => by simp at hs⟩ [] (by decide) 3
  exact h.args ⟨VLe.a (RLe.nils 3), VLe.a (RLe.nils 8), VLe.refl _, trivial⟩
theorem exFlt : PDen Try.prog 9 [.a (.slice 3 [exSes.row]), .a .nils, .a (.slice 8 [[.int .i64 3, .int .i64 1, .str (ByteArray.mk #[]), .nils, .bool false, .bool false, .nils, .nils], [.int .i64 3, .int .i64 2, .str (ByteArray.mk #[]), .nils, .bool false, .bool false, .nils, .nils], [.int .i64 3, .int .i64 4, .str (ByteArray.mk #[]), .nils, .bool false, .bool false, .nils, .nils]])]
    (.tup [.a (.slice 8 [(exQ 2).row]), .a (.slice 5 [exRp.row]), .a (.slice 8 [(exQ 4).row])]) := by
  have h := filter_den [exSes] exBulk [] [exQ 1, exQ 2, exQ 4] (by decide) exReqs
  exact h.args ⟨VLe.refl _, VLe.a (RLe.nils 8), VLe.a (RLe.slice ⟨exQ_le 1, exQ_le 2, exQ_le 4, trivial⟩), trivial⟩
set_option maxHeartbeats 4000000 in
theorem examples_den : PDen Try.prog 11 [] (.a (.bool true)) := by
  refine den_of_body k_law37_examples ⟨rfl, Nat.le_of_ble_eq_true rfl, thaw_intro ?_⟩
  unfold c_law37_examples
  simp only [go_sem]
  refine t_call_intro (commit_den) ?_
  simp only [go_sem]
  refine t_call_intro (exRecord) ?_
  simp only [go_sem]
  refine t_call_intro (exExp) ?_
  have n1 : ((1 : Int) != 1) = false := rfl
  have n0 : ((0 : Int) != 0) = false := rfl
  have n1' : (((1 : Nat) : Int) != 1) = false := rfl
  have nx : (exSes.nx != 2) = false := rfl
  have z1 : (0 : Int) < ((1 : Nat) : Int) := by decide
  simp only [n1, n0, n1', nx, z1, go_sem]
  refine t_call_intro (exFlt) ?_
  have e1 : (((1 : Nat) : Int) == 1) = true := rfl
  have q2 : ((exQ 2).sq == 2) = true := rfl
  have q4 : ((exQ 4).sq == 4) = true := rfl
  have q1 : (exRp.sq == 1) = true := rfl
  simp only [e1, q2, q4, q1, z1, go_sem]
  simp only [aresult, ares, go_sem]
end Go.Proofs.Ytbiongfnbbnndaa
