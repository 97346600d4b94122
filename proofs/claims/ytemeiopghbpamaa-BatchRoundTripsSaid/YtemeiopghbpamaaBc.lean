/- Requests: validity; contracts of the abstract layer. -/
import Derived.Test.YtemeiopghbpamaaBb
set_option linter.unusedSimpArgs false
set_option linter.unusedVariables false
namespace Go.Proofs.Ytemeiopghbpamaa
open Go Ab Go.RowKit
attribute [local irreducible] awp aops aop asoft aeff aloop acall acallI acallT
attribute [local go_sem] Vl.row sRow

structure Req where
  cl : Int
  sq : Int
  pr : ByteArray
  args : List Vl
  dc : Bool
  al : Bool
  rd : List ByteArray
  wt : List ByteArray
def fpRow (al : Bool) (rd wt : List ByteArray) : List Atom := [.bool al, .slice 1 (rd.map sRow), .slice 1 (wt.map sRow)]
def Req.row (r : Req) : List Atom := [.int .i64 r.cl, .int .i64 r.sq, .str r.pr, .slice 3 (r.args.map Vl.row), .bool r.dc, .bool r.al, .slice 1 (r.rd.map sRow), .slice 1 (r.wt.map sRow)]
structure Req.fit (r : Req) : Prop where
  pr : r.pr.size ≤ 9223372036854775807
  len : r.args.length * 8 ≤ 140737488351232
  args : ∀ v ∈ r.args, v.s.size ≤ 9223372036854775807
  rd : KeysFit r.rd
  wt : KeysFit r.wt
  ns : ∀ v ∈ r.args, -Cw.M63 ≤ v.n ∧ v.n < Cw.M63
def fpV (al : Bool) (rd wt : List ByteArray) : Bool :=
  if al = true then decide (rd.length = 0) && decide (wt.length = 0) else (ascK none rd && decide (rd.length ≤ 64)) && (ascK none wt && decide (wt.length ≤ 64))
attribute [local go_sem] fpRow Req.row
set_option maxRecDepth 100000 in
set_option maxHeartbeats 4000000 in
theorem fp_den (al : Bool) (rd wt : List ByteArray) (hr : KeysFit rd) (hw : KeysFit wt) : PDen Try.prog 42 [.agg (fpRow al rd wt)] (.a (.bool (fpV al rd wt))) := by
  have hr1 := hr.1
  have hw1 := hw.1
  cases al with
  | true =>
    have hv : fpV true rd wt = (decide (rd.length = 0) && decide (wt.length = 0)) := if_pos rfl
    rw [hv]
    by_cases h1 : rd.length = 0
    · have q1 : ((rd.length : Int) == 0) = true := by rw [beq_iff_eq]; omega
      by_cases h2 : wt.length = 0
      · have q2 : ((wt.length : Int) == 0) = true := by rw [beq_iff_eq]; omega
        refine den_of_body k_footprint_Valid ⟨rfl, Nat.le_of_ble_eq_true rfl, thaw_intro ?_⟩
        unfold c_footprint_Valid
        simp only [q1, q2, go_sem]
        simp only [aresult, ares, go_sem]
        simp [h1, h2]
      · have q2 : ((wt.length : Int) == 0) = false := by rw [beq_eq_false_iff_ne]; omega
        refine den_of_body k_footprint_Valid ⟨rfl, Nat.le_of_ble_eq_true rfl, thaw_intro ?_⟩
        unfold c_footprint_Valid
        simp only [q1, q2, go_sem]
        simp only [aresult, ares, go_sem]
        simp [h2]
    · have q1 : ((rd.length : Int) == 0) = false := by rw [beq_eq_false_iff_ne]; omega
      refine den_of_body k_footprint_Valid ⟨rfl, Nat.le_of_ble_eq_true rfl, thaw_intro ?_⟩
      unfold c_footprint_Valid
      simp only [q1, go_sem]
      simp only [aresult, ares, go_sem]
      simp [h1]
  | false =>
    have hv : fpV false rd wt = ((ascK none rd && decide (rd.length ≤ 64)) && (ascK none wt && decide (wt.length ≤ 64))) := if_neg (by simp)
    rw [hv]
    have hA := kasc_den rd hr
    have hB := kasc_den wt hw
    generalize (ascK none rd && decide (rd.length ≤ 64)) = x at hA ⊢
    generalize (ascK none wt && decide (wt.length ≤ 64)) = y at hB ⊢
    cases x with
    | true =>
      refine den_of_body k_footprint_Valid ⟨rfl, Nat.le_of_ble_eq_true rfl, thaw_intro ?_⟩
      unfold c_footprint_Valid
      simp only [go_sem]
      refine t_call_intro (hA) ?_
      simp only [go_sem]
      refine t_call_intro (hB) ?_
      simp only [go_sem]
      simp only [aresult, ares, go_sem]
      rfl
    | false =>
      refine den_of_body k_footprint_Valid ⟨rfl, Nat.le_of_ble_eq_true rfl, thaw_intro ?_⟩
      unfold c_footprint_Valid
      simp only [go_sem]
      refine t_call_intro (hA) ?_
      simp only [go_sem]
      simp only [aresult, ares, go_sem]
      rfl
set_option maxRecDepth 100000 in
set_option maxHeartbeats 4000000 in
theorem rfp_den (al : Bool) (rd wt : List ByteArray) (hr : KeysFit rd) (hw : KeysFit wt) : PDen Try.prog 28 [.agg (fpRow al rd wt)] (.a (.bool (fpV al rd wt))) := by
  have hr1 := hr.1
  have hw1 := hw.1
  cases al with
  | true =>
    have hv : fpV true rd wt = (decide (rd.length = 0) && decide (wt.length = 0)) := if_pos rfl
    rw [hv]
    by_cases h1 : rd.length = 0
    · have q1 : ((rd.length : Int) == 0) = true := by rw [beq_iff_eq]; omega
      by_cases h2 : wt.length = 0
      · have q2 : ((wt.length : Int) == 0) = true := by rw [beq_iff_eq]; omega
        refine den_of_body k_ref19_Valid ⟨rfl, Nat.le_of_ble_eq_true rfl, thaw_intro ?_⟩
        unfold c_ref19_Valid
        simp only [q1, q2, go_sem]
        simp only [aresult, ares, go_sem]
        simp [h1, h2]
      · have q2 : ((wt.length : Int) == 0) = false := by rw [beq_eq_false_iff_ne]; omega
        refine den_of_body k_ref19_Valid ⟨rfl, Nat.le_of_ble_eq_true rfl, thaw_intro ?_⟩
        unfold c_ref19_Valid
        simp only [q1, q2, go_sem]
        simp only [aresult, ares, go_sem]
        simp [h2]
    · have q1 : ((rd.length : Int) == 0) = false := by rw [beq_eq_false_iff_ne]; omega
      refine den_of_body k_ref19_Valid ⟨rfl, Nat.le_of_ble_eq_true rfl, thaw_intro ?_⟩
      unfold c_ref19_Valid
      simp only [q1, go_sem]
      simp only [aresult, ares, go_sem]
      simp [h1]
  | false =>
    have hv : fpV false rd wt = ((ascK none rd && decide (rd.length ≤ 64)) && (ascK none wt && decide (wt.length ≤ 64))) := if_neg (by simp)
    rw [hv]
    have hA := rkasc_den rd hr
    have hB := rkasc_den wt hw
    by_cases h1 : rd.length ≤ 64
    · have q1 : (rd.length : Int) ≤ 64 := by omega
      by_cases h2 : wt.length ≤ 64
      · have q2 : (wt.length : Int) ≤ 64 := by omega
        cases hx : ascK none rd with
        | true =>
          rw [hx] at hA
          refine den_of_body k_ref19_Valid ⟨rfl, Nat.le_of_ble_eq_true rfl, thaw_intro ?_⟩
          unfold c_ref19_Valid
          simp only [q1, q2, go_sem]
          refine t_call_intro (hA) ?_
          simp only [go_sem]
          refine t_call_intro (hB) ?_
          simp only [go_sem]
          simp only [aresult, ares, go_sem]
          simp [h1, h2]
        | false =>
          rw [hx] at hA
          refine den_of_body k_ref19_Valid ⟨rfl, Nat.le_of_ble_eq_true rfl, thaw_intro ?_⟩
          unfold c_ref19_Valid
          simp only [q1, q2, go_sem]
          refine t_call_intro (hA) ?_
          simp only [go_sem]
          simp only [aresult, ares, go_sem]
          simp
      · have q2 : ¬ (wt.length : Int) ≤ 64 := by omega
        refine den_of_body k_ref19_Valid ⟨rfl, Nat.le_of_ble_eq_true rfl, thaw_intro ?_⟩
        unfold c_ref19_Valid
        simp only [q1, q2, go_sem]
        simp only [aresult, ares, go_sem]
        simp [h2]
    · have q1 : ¬ (rd.length : Int) ≤ 64 := by omega
      refine den_of_body k_ref19_Valid ⟨rfl, Nat.le_of_ble_eq_true rfl, thaw_intro ?_⟩
      unfold c_ref19_Valid
      simp only [q1, go_sem]
      simp only [aresult, ares, go_sem]
      simp [h1]
def argBad (v : Vl) : Bool := (v.kind == 0) || !valV v
set_option maxRecDepth 100000 in
theorem argBad_den (v : Vl) (hs : v.s.size ≤ 9223372036854775807) : PDen Try.prog 40 [.agg v.row] (.a (.bool (argBad v))) := by
  by_cases h : v.kind = 0
  · have q : (v.kind == 0) = true := by rw [beq_iff_eq]; exact h
    refine den_of_body k_batch_ValidRequest_1 ⟨rfl, Nat.le_of_ble_eq_true rfl, thaw_intro ?_⟩
    unfold c_batch_ValidRequest_1
    simp only [q, go_sem]
    simp only [aresult, ares, go_sem]
    simp [argBad, h]
  · have q : (v.kind == 0) = false := by rw [beq_eq_false_iff_ne]; exact h
    refine den_of_body k_batch_ValidRequest_1 ⟨rfl, Nat.le_of_ble_eq_true rfl, thaw_intro ?_⟩
    unfold c_batch_ValidRequest_1
    simp only [q, go_sem]
    refine t_call_intro (valV_den v hs) ?_
    simp only [go_sem]
    simp only [aresult, ares, go_sem]
    simp [argBad, h]
theorem b_argBad : bodied Try.prog 40 = true := by kernel_rfl
def idxF {α : Type} (f : α → Bool) : Nat → List α → Int
  | _, [] => -1
  | i, x :: xs => if f x = true then (i : Int) else idxF f (i + 1) xs
theorem idxF_any {α : Type} (f : α → Bool) : ∀ (l : List α) (i : Nat), decide (0 ≤ idxF f i l) = l.any f
  | [], i => by simp [idxF]
  | x :: xs, i => by
    simp only [idxF, List.any_cons]
    by_cases h : f x = true
    · simp [h]
    · have := idxF_any f xs (i + 1)
      simp [h, this]
theorem idxF_step {α : Type} (f : α → Bool) (l : List α) (k : Nat) (h : k < l.length) : idxF f k (l.drop k) = if f l[k] = true then (k : Int) else idxF f (k + 1) (l.drop (k + 1)) := by
  rw [List.drop_eq_getElem_cons h]; rfl
set_option maxRecDepth 100000 in
set_option maxHeartbeats 1000000 in
theorem vindex_den (l : List Vl) (hl : l.length * 8 ≤ 140737488351232) (hf : ∀ v ∈ l, v.s.size ≤ 9223372036854775807) : PDen Try.prog 62 [.a (.slice 3 (l.map Vl.row)), .clo 40 []] (.a (.int .i64 (idxF argBad 0 l))) := by
  refine den_of_body k_slices_IndexFunc_api_Value_api_Value ⟨rfl, Nat.le_of_ble_eq_true rfl, thaw_intro ?_⟩
  unfold c_slices_IndexFunc_api_Value_api_Value
  simp only [go_sem]
  refine t_loop_intro (fun k : Nat => k ≤ l.length ∧ (idxF argBad 0 l = idxF argBad k (l.drop k))) (fun k => l.length - k) 0 [4, 5, 8, 9, 10, 11, 12, 13, 14, 15, 16, 17, 18] (fun k => [(8, .a (.int .i64 k))]) ⟨by omega, by rfl⟩ (by simp) (fun k => by simp) rfl ?_
  intro k hk0 fr_ hfr
  have hk : k ≤ l.length := hk0.1
  have hall := hk0.2
  clear hk0
  simp only [go_sem] at hfr
  subst hfr
  by_cases hlt : k < l.length
  · have h1 : (k : Int) < (l.length : Int) := by omega
    have e := getD_map Vl.row l k hlt
    have er : l[k].row = [.int .i64 l[k].kind, .int .i64 l[k].n, .str l[k].s] := rfl
    have ew := wrap1 k l.length hlt (by omega)
    have es := idxF_step argBad l k hlt
    have hab := argBad_den l[k] (hf _ (List.getElem_mem hlt))
    rw [er] at hab
    simp only [h1, e, er, b_argBad, go_sem]
    refine t_call_intro (hab) ?_
    simp only [go_sem]
    first | refine t_case_dec (fun h2 => ?_) (fun h2 => ?_) | refine t_case_ndec (fun h2 => ?_) (fun h2 => ?_) | refine t_case_eqI (fun h2 => ?_) (fun h2 => ?_) | refine t_case_neI (fun h2 => ?_) (fun h2 => ?_) | refine t_case_not (fun h2 => ?_) (fun h2 => ?_) | refine t_case_intro (fun h2 => ?_) (fun h2 => ?_)
    · simp only [go_sem]
      simp only [aresult, ares, go_sem]
      rw [hall, es, if_pos h2]
    · simp only [ew, go_sem]
      refine t_round (k + 1) ⟨by omega, by rw [hall, es, if_neg (by rw [h2]; simp)]⟩ (by omega) (by simp) rfl rfl (by simp) rfl
  · have h1 : ¬ (k : Int) < (l.length : Int) := by omega
    simp only [h1, go_sem]
    simp only [aresult, ares, go_sem]
    rw [List.drop_eq_nil_of_le (by omega)] at hall
    rw [hall]; rfl
set_option maxRecDepth 100000 in
theorem vcontains_den (l : List Vl) (hl : l.length * 8 ≤ 140737488351232) (hf : ∀ v ∈ l, v.s.size ≤ 9223372036854775807) : PDen Try.prog 39 [.a (.slice 3 (l.map Vl.row)), .clo 40 []] (.a (.bool (l.any argBad))) := by
  refine den_of_body k_slices_ContainsFunc_api_Value_api_Value ⟨rfl, Nat.le_of_ble_eq_true rfl, thaw_intro ?_⟩
  unfold c_slices_ContainsFunc_api_Value_api_Value
  simp only [go_sem]
  refine t_call_intro (vindex_den l hl hf) ?_
  simp only [go_sem]
  simp only [aresult, ares, go_sem]
  rw [idxF_any]
/-- The first error of a request. -/
def reqE (r : Req) : Int :=
  if r.cl < 1 ∨ 32 < r.cl ∨ r.sq < 1 ∨ 1099511627776 < r.sq then 1
  else if nameV r.pr = false then 7
  else if 6 < r.args.length then 2
  else if r.args.any argBad = true then 1
  else if fpV r.al r.rd r.wt = false ∨ r.al = true ∨ (r.dc = false ∧ 0 < r.rd.length + r.wt.length) then 1 else 0
set_option maxRecDepth 100000 in
set_option maxHeartbeats 4000000 in
theorem reqE_den (r : Req) (h : r.fit) : PDen Try.prog 17 [.agg r.row] (.a (.int .i64 (reqE r))) := by
  obtain ⟨h1, h2, h3, h4, h5, _⟩ := h
  have h41 := h4.1
  have h51 := h5.1
  have hN := name_den r.pr h1
  have hF := fp_den r.al r.rd r.wt h4 h5
  have hC := vcontains_den r.args h2 h3
  obtain ⟨cl, sq, pr, args, dc, al, rd, wt⟩ := r
  simp only at h1 h2 h3 h4 h5 h41 h51 hN hF hC
  by_cases a1 : cl < 1
  · have hr : reqE ⟨cl, sq, pr, args, dc, al, rd, wt⟩ = 1 := if_pos (by simp only; omega)
    rw [hr]
    refine den_of_body k_batch_ValidRequest ⟨rfl, Nat.le_of_ble_eq_true rfl, thaw_intro ?_⟩
    unfold c_batch_ValidRequest
    simp only [a1, go_sem]
    simp only [aresult, ares, go_sem]
  by_cases a2 : (32 : Int) < cl
  · have hr : reqE ⟨cl, sq, pr, args, dc, al, rd, wt⟩ = 1 := if_pos (by simp only; omega)
    rw [hr]
    refine den_of_body k_batch_ValidRequest ⟨rfl, Nat.le_of_ble_eq_true rfl, thaw_intro ?_⟩
    unfold c_batch_ValidRequest
    simp only [a1, a2, go_sem]
    simp only [aresult, ares, go_sem]
  by_cases a3 : sq < 1
  · have hr : reqE ⟨cl, sq, pr, args, dc, al, rd, wt⟩ = 1 := if_pos (by simp only; omega)
    rw [hr]
    refine den_of_body k_batch_ValidRequest ⟨rfl, Nat.le_of_ble_eq_true rfl, thaw_intro ?_⟩
    unfold c_batch_ValidRequest
    simp only [a1, a2, a3, go_sem]
    simp only [aresult, ares, go_sem]
  by_cases a4 : (1099511627776 : Int) < sq
  · have hr : reqE ⟨cl, sq, pr, args, dc, al, rd, wt⟩ = 1 := if_pos (by simp only; omega)
    rw [hr]
    refine den_of_body k_batch_ValidRequest ⟨rfl, Nat.le_of_ble_eq_true rfl, thaw_intro ?_⟩
    unfold c_batch_ValidRequest
    simp only [a1, a2, a3, a4, go_sem]
    simp only [aresult, ares, go_sem]
  have hd : ¬ (cl < 1 ∨ 32 < cl ∨ sq < 1 ∨ 1099511627776 < sq) := by omega
  cases hn : nameV pr with
  | false =>
    have hr : reqE ⟨cl, sq, pr, args, dc, al, rd, wt⟩ = 7 := (if_neg hd).trans (if_pos hn)
    rw [hn] at hN
    rw [hr]
    refine den_of_body k_batch_ValidRequest ⟨rfl, Nat.le_of_ble_eq_true rfl, thaw_intro ?_⟩
    unfold c_batch_ValidRequest
    simp only [a1, a2, a3, a4, go_sem]
    refine t_call_intro (hN) ?_
    simp only [go_sem]
    simp only [aresult, ares, go_sem]
  | true =>
    rw [hn] at hN
    by_cases a5 : 6 < args.length
    · have a5' : (6 : Int) < (args.length : Int) := by omega
      have hr : reqE ⟨cl, sq, pr, args, dc, al, rd, wt⟩ = 2 := (if_neg hd).trans ((if_neg (by simp [hn])).trans (if_pos a5))
      rw [hr]
      refine den_of_body k_batch_ValidRequest ⟨rfl, Nat.le_of_ble_eq_true rfl, thaw_intro ?_⟩
      unfold c_batch_ValidRequest
      simp only [a1, a2, a3, a4, go_sem]
      refine t_call_intro (hN) ?_
      simp only [a5', go_sem]
      simp only [aresult, ares, go_sem]
    · have a5' : ¬ (6 : Int) < (args.length : Int) := by omega
      have ewl : IntKind.i64.wrap ((rd.length : Int) + (wt.length : Int)) = (rd.length : Int) + (wt.length : Int) := by rw [IntKind.wrap_i64]; omega
      cases hc : args.any argBad with
      | true =>
        rw [hc] at hC
        have hr : reqE ⟨cl, sq, pr, args, dc, al, rd, wt⟩ = 1 := (if_neg hd).trans ((if_neg (by simp [hn])).trans ((if_neg a5).trans (if_pos hc)))
        rw [hr]
        refine den_of_body k_batch_ValidRequest ⟨rfl, Nat.le_of_ble_eq_true rfl, thaw_intro ?_⟩
        unfold c_batch_ValidRequest
        simp only [a1, a2, a3, a4, go_sem]
        refine t_call_intro (hN) ?_
        simp only [a5', go_sem]
        refine t_call_intro (hC) ?_
        simp only [go_sem]
        simp only [aresult, ares, go_sem]
      | false =>
        rw [hc] at hC
        have hG : reqE ⟨cl, sq, pr, args, dc, al, rd, wt⟩ = if fpV al rd wt = false ∨ al = true ∨ (dc = false ∧ 0 < rd.length + wt.length) then 1 else 0 := (if_neg hd).trans ((if_neg (by simp [hn])).trans ((if_neg a5).trans (if_neg (by simp only; rw [hc]; simp))))
        refine den_of_body k_batch_ValidRequest ⟨rfl, Nat.le_of_ble_eq_true rfl, thaw_intro ?_⟩
        unfold c_batch_ValidRequest
        simp only [a1, a2, a3, a4, go_sem]
        refine t_call_intro (hN) ?_
        simp only [a5', go_sem]
        refine t_call_intro (hC) ?_
        simp only [go_sem]
        cases hv : fpV al rd wt with
        | false =>
          rw [hv] at hF
          have hr : reqE ⟨cl, sq, pr, args, dc, al, rd, wt⟩ = 1 := hG.trans (if_pos (.inl hv))
          rw [hr]
          refine t_call_intro (hF) ?_
          simp only [go_sem]
          simp only [aresult, ares, go_sem]
        | true =>
          rw [hv] at hF
          cases al with
          | true =>
            have hr : reqE ⟨cl, sq, pr, args, dc, true, rd, wt⟩ = 1 := hG.trans (if_pos (.inr (.inl rfl)))
            rw [hr]
            refine t_call_intro (hF) ?_
            simp only [go_sem]
            simp only [aresult, ares, go_sem]
          | false =>
            cases dc with
            | true =>
              have hr : reqE ⟨cl, sq, pr, args, true, false, rd, wt⟩ = 0 := hG.trans (if_neg (by simp [hv]))
              rw [hr]
              refine t_call_intro (hF) ?_
              simp only [go_sem]
              simp only [aresult, ares, go_sem]
            | false =>
              by_cases hs : 0 < rd.length + wt.length
              · have a6 : (0 : Int) < ((rd.length : Int) + (wt.length : Int)) := by omega
                have hr : reqE ⟨cl, sq, pr, args, false, false, rd, wt⟩ = 1 := hG.trans (if_pos (.inr (.inr ⟨rfl, hs⟩)))
                rw [hr]
                refine t_call_intro (hF) ?_
                simp only [ewl, a6, go_sem]
                simp only [aresult, ares, go_sem]
              · have a6 : ¬ (0 : Int) < ((rd.length : Int) + (wt.length : Int)) := by omega
                have hr : reqE ⟨cl, sq, pr, args, false, false, rd, wt⟩ = 0 := hG.trans (if_neg (fun hh => by rcases hh with hh | hh | hh; exact absurd (hv.symm.trans hh) (by simp); cases hh; exact hs hh.2))
                rw [hr]
                refine t_call_intro (hF) ?_
                simp only [ewl, a6, go_sem]
                simp only [aresult, ares, go_sem]
set_option maxRecDepth 100000 in
set_option maxHeartbeats 4000000 in
theorem rreqE_den (r : Req) (h : r.fit) : PDen Try.prog 12 [.agg r.row] (.a (.int .i64 (reqE r))) := by
  obtain ⟨h1, h2, h3, h4, h5, _⟩ := h
  have h41 := h4.1
  have h51 := h5.1
  have hN := rname_den r.pr h1
  have hF := rfp_den r.al r.rd r.wt h4 h5
  obtain ⟨cl, sq, pr, args, dc, al, rd, wt⟩ := r
  simp only at h1 h2 h3 h4 h5 h41 h51 hN hF 
  by_cases a1 : cl < 1
  · have hr : reqE ⟨cl, sq, pr, args, dc, al, rd, wt⟩ = 1 := if_pos (by simp only; omega)
    rw [hr]
    refine den_of_body k_ref36_ValidRequest ⟨rfl, Nat.le_of_ble_eq_true rfl, thaw_intro ?_⟩
    unfold c_ref36_ValidRequest
    simp only [a1, go_sem]
    simp only [aresult, ares, go_sem]
  by_cases a2 : (32 : Int) < cl
  · have hr : reqE ⟨cl, sq, pr, args, dc, al, rd, wt⟩ = 1 := if_pos (by simp only; omega)
    rw [hr]
    refine den_of_body k_ref36_ValidRequest ⟨rfl, Nat.le_of_ble_eq_true rfl, thaw_intro ?_⟩
    unfold c_ref36_ValidRequest
    simp only [a1, a2, go_sem]
    simp only [aresult, ares, go_sem]
  by_cases a3 : sq < 1
  · have hr : reqE ⟨cl, sq, pr, args, dc, al, rd, wt⟩ = 1 := if_pos (by simp only; omega)
    rw [hr]
    refine den_of_body k_ref36_ValidRequest ⟨rfl, Nat.le_of_ble_eq_true rfl, thaw_intro ?_⟩
    unfold c_ref36_ValidRequest
    simp only [a1, a2, a3, go_sem]
    simp only [aresult, ares, go_sem]
  by_cases a4 : (1099511627776 : Int) < sq
  · have hr : reqE ⟨cl, sq, pr, args, dc, al, rd, wt⟩ = 1 := if_pos (by simp only; omega)
    rw [hr]
    refine den_of_body k_ref36_ValidRequest ⟨rfl, Nat.le_of_ble_eq_true rfl, thaw_intro ?_⟩
    unfold c_ref36_ValidRequest
    simp only [a1, a2, a3, a4, go_sem]
    simp only [aresult, ares, go_sem]
  have hd : ¬ (cl < 1 ∨ 32 < cl ∨ sq < 1 ∨ 1099511627776 < sq) := by omega
  cases hn : nameV pr with
  | false =>
    have hr : reqE ⟨cl, sq, pr, args, dc, al, rd, wt⟩ = 7 := (if_neg hd).trans (if_pos hn)
    rw [hn] at hN
    rw [hr]
    refine den_of_body k_ref36_ValidRequest ⟨rfl, Nat.le_of_ble_eq_true rfl, thaw_intro ?_⟩
    unfold c_ref36_ValidRequest
    simp only [a1, a2, a3, a4, go_sem]
    refine t_call_intro (hN) ?_
    simp only [go_sem]
    simp only [aresult, ares, go_sem]
  | true =>
    rw [hn] at hN
    by_cases a5 : 6 < args.length
    · have a5' : (6 : Int) < (args.length : Int) := by omega
      have hr : reqE ⟨cl, sq, pr, args, dc, al, rd, wt⟩ = 2 := (if_neg hd).trans ((if_neg (by simp [hn])).trans (if_pos a5))
      rw [hr]
      refine den_of_body k_ref36_ValidRequest ⟨rfl, Nat.le_of_ble_eq_true rfl, thaw_intro ?_⟩
      unfold c_ref36_ValidRequest
      simp only [a1, a2, a3, a4, go_sem]
      refine t_call_intro (hN) ?_
      simp only [a5', go_sem]
      simp only [aresult, ares, go_sem]
    · have a5' : ¬ (6 : Int) < (args.length : Int) := by omega
      have ewl : IntKind.i64.wrap ((rd.length : Int) + (wt.length : Int)) = (rd.length : Int) + (wt.length : Int) := by rw [IntKind.wrap_i64]; omega
      refine den_of_body k_ref36_ValidRequest ⟨rfl, Nat.le_of_ble_eq_true rfl, thaw_intro ?_⟩
      unfold c_ref36_ValidRequest
      simp only [a1, a2, a3, a4, go_sem]
      refine t_call_intro (hN) ?_
      simp only [a5', go_sem]
      refine t_loop_intro (fun k : Nat => k ≤ args.length ∧ (args.any argBad = (args.drop k).any argBad)) (fun k => args.length - k) 0 [2, 3, 30, 31, 32, 33, 34, 35, 36, 37, 38, 39, 40, 41, 42, 43, 44, 45, 46, 47, 48, 49, 50, 51, 52] (fun k => [(3, .a (.int .i64 k))]) ⟨by omega, by simp⟩ (by simp) (fun k => by simp) rfl ?_
      intro k hk0 fr_ hfr
      have hk : k ≤ args.length := hk0.1
      have hall := hk0.2
      clear hk0
      simp only [go_sem] at hfr
      subst hfr
      by_cases hlt : k < args.length
      · have b1 : (k : Int) < (args.length : Int) := by omega
        have e := getD_map Vl.row args k hlt
        have er : args[k].row = [.int .i64 args[k].kind, .int .i64 args[k].n, .str args[k].s] := rfl
        have ew := wrap1 k args.length hlt (by omega)
        have es : (args.drop k).any argBad = (argBad args[k] || (args.drop (k + 1)).any argBad) := by rw [List.drop_eq_getElem_cons hlt, List.any_cons]
        have hv := rvalV_den args[k] (h3 _ (List.getElem_mem hlt))
        rw [er] at hv
        have hbad : argBad args[k] = true → reqE ⟨cl, sq, pr, args, dc, al, rd, wt⟩ = 1 := fun hb => (if_neg hd).trans ((if_neg (by simp [hn])).trans ((if_neg a5).trans (if_pos (by simp only; rw [hall, es, hb]; rfl))))
        cases hq : valV args[k] with
        | false =>
          rw [hq] at hv
          simp only [b1, e, er, go_sem]
          refine t_call_intro (hv) ?_
          simp only [go_sem]
          simp only [aresult, ares, go_sem]
          rw [hbad (by simp [argBad, hq])]
        | true =>
          rw [hq] at hv
          by_cases hk0 : args[k].kind = 0
          · have q : (args[k].kind == 0) = true := by rw [beq_iff_eq]; exact hk0
            simp only [b1, e, er, go_sem]
            refine t_call_intro (hv) ?_
            simp only [b1, e, er, q, go_sem]
            simp only [aresult, ares, go_sem]
            rw [hbad (by simp [argBad, hk0])]
          · have q : (args[k].kind == 0) = false := by rw [beq_eq_false_iff_ne]; exact hk0
            simp only [b1, e, er, go_sem]
            refine t_call_intro (hv) ?_
            simp only [b1, e, er, q, ew, go_sem]
            refine t_round (k + 1) ⟨by omega, by rw [hall, es]; simp [argBad, hq, hk0]⟩ (by omega) (by simp) rfl rfl (by simp) rfl
      · have b1 : ¬ (k : Int) < (args.length : Int) := by omega
        have hc : args.any argBad = false := by rw [hall, List.drop_eq_nil_of_le (by omega)]; rfl
        have hG : reqE ⟨cl, sq, pr, args, dc, al, rd, wt⟩ = if fpV al rd wt = false ∨ al = true ∨ (dc = false ∧ 0 < rd.length + wt.length) then 1 else 0 := (if_neg hd).trans ((if_neg (by simp [hn])).trans ((if_neg a5).trans (if_neg (by simp only; rw [hc]; simp))))
        simp only [b1, go_sem]
        cases hv : fpV al rd wt with
        | false =>
          rw [hv] at hF
          have hr : reqE ⟨cl, sq, pr, args, dc, al, rd, wt⟩ = 1 := hG.trans (if_pos (.inl hv))
          rw [hr]
          refine t_call_intro (hF) ?_
          simp only [go_sem]
          simp only [aresult, ares, go_sem]
        | true =>
          rw [hv] at hF
          cases al with
          | true =>
            have hr : reqE ⟨cl, sq, pr, args, dc, true, rd, wt⟩ = 1 := hG.trans (if_pos (.inr (.inl rfl)))
            rw [hr]
            refine t_call_intro (hF) ?_
            simp only [go_sem]
            simp only [aresult, ares, go_sem]
          | false =>
            cases dc with
            | true =>
              have hr : reqE ⟨cl, sq, pr, args, true, false, rd, wt⟩ = 0 := hG.trans (if_neg (by simp [hv]))
              rw [hr]
              refine t_call_intro (hF) ?_
              simp only [go_sem]
              simp only [aresult, ares, go_sem]
            | false =>
              by_cases hs : 0 < rd.length + wt.length
              · have a6 : (0 : Int) < ((rd.length : Int) + (wt.length : Int)) := by omega
                have hr : reqE ⟨cl, sq, pr, args, false, false, rd, wt⟩ = 1 := hG.trans (if_pos (.inr (.inr ⟨rfl, hs⟩)))
                rw [hr]
                refine t_call_intro (hF) ?_
                simp only [ewl, a6, go_sem]
                simp only [aresult, ares, go_sem]
              · have a6 : ¬ (0 : Int) < ((rd.length : Int) + (wt.length : Int)) := by omega
                have hr : reqE ⟨cl, sq, pr, args, false, false, rd, wt⟩ = 0 := hG.trans (if_neg (fun hh => by rcases hh with hh | hh | hh; exact absurd (hv.symm.trans hh) (by simp); cases hh; exact hs hh.2))
                rw [hr]
                refine t_call_intro (hF) ?_
                simp only [ewl, a6, go_sem]
                simp only [aresult, ares, go_sem]
end Go.Proofs.Ytemeiopghbpamaa
