/- Chapter 37: Record; a new client. -/
import Derived.Test.YtbiongfnbbnndaaRa
set_option linter.unusedSimpArgs false
set_option linter.unusedVariables false
namespace Go.Proofs.Ytbiongfnbbnndaa
open Go Ab Go.RowKit
set_option maxRecDepth 100000
attribute [local irreducible] awp aops aop asoft aeff aloop acall acallI acallT
attribute [local go_sem] Vl.row sRow fpRow Req.row Rpl.row Ses.row

theorem take_row {α : Type} (f : α → List Atom) (l : List α) (k : Nat) (h : k < l.length) : (l.take (k + 1)).map f = (l.take k).map f ++ [f l[k]] := by
  rw [List.take_succ_eq_append_getElem h, List.map_append]; rfl
theorem outV_len {st cd : Int} {out : List Vl} (h : outV st cd out = true) : out.length ≤ 16 := by
  unfold outV at h
  split at h
  · simp only [Bool.and_eq_true, decide_eq_true_eq] at h; exact h.1.2
  · simp only [Bool.and_eq_true, decide_eq_true_eq] at h; omega
structure RecIn (l : List Ses) (r : Rpl) : Prop where
  v : sessV l = true
  c1 : ¬ r.cl < 1
  c2 : ¬ 32 < r.cl
  o : outV r.st r.cd r.out = true
  sq : r.sq = nextI l r.cl
  q : r.sq ≠ 1099511627776
theorem asc_len2 : ∀ (l : List Ses) (lo : Int), AscC l → (∀ s ∈ l, lo ≤ s.cl ∧ s.cl ≤ 32) → lo ≤ 33 → (l.length : Int) ≤ 33 - lo
  | [], lo, _, _, h => by simp; omega
  | s :: l, lo, ha, hs, h => by
    have h1 := hs s (by simp)
    have := asc_len2 l (s.cl + 1) (List.pairwise_cons.1 ha).2 (fun x hx => ⟨by have := (List.pairwise_cons.1 ha).1 x hx; omega, (hs x (by simp [hx])).2⟩) (by omega)
    simp only [List.length_cons]; omega
theorem sess_len2 {l : List Ses} (h : sessV l = true) : l.length ≤ 32 := by
  have h1 := asc_len2 l 1 (sessV_asc h).1 (fun s hs => by
    have h2 := (sessV_asc h).2 s hs
    unfold sesV at h2
    rw [Bool.and_eq_true] at h2
    have hh := sHead_of h2.1
    exact ⟨by have := hh.c1; omega, by have := hh.c2; omega⟩) (by omega)
  omega
theorem next_in {l : List Ses} (h : sessV l = true) (c : Int) : 1 ≤ nextI l c ∧ nextI l c ≤ 1099511627776 := by
  unfold nextI
  cases hs : sOf l c with
  | none => simp
  | some s =>
    have h2 := (sessV_asc h).2 s (sOf_mem hs).1
    unfold sesV at h2
    rw [Bool.and_eq_true] at h2
    have hh := sHead_of h2.1
    exact ⟨by have := hh.n1; simp only; omega, by have := hh.n2; simp only; omega⟩
set_option maxHeartbeats 16000000 in
theorem record_new (l : List Ses) (hb : SesBulk l) (r : Rpl) (hr : VlsFit r.out) (h : RecIn l r) (hf : foundC l (loC r.cl l) r.cl = false) :
    PDen Try.prog 13 [.a (.slice 3 (l.map Ses.row)), .agg r.row] (.tup [.a (.slice 3 ((recL l r).map Ses.row)), .a (.int .i64 0)]) := by
  have hv := sessV_den l hb.fit
  have ho := outV_den r.st r.cd r.out hr
  have hn := next_den l r.cl hb.fit.len (sessV_asc h.v).1
  have hfd := findC_den l r.cl hb.fit.len (sessV_asc h.v).1
  have hlo := (loC_spec r.cl l (sessV_asc h.v).1).1
  have hc := cloneR_den r (by have := outV_len h.o; omega)
  have hl := sess_len2 h.v
  have hq := next_in h.v r.cl
  rw [← h.sq] at hq
  have g1 := h.c1
  have g2 := h.c2
  have g4 : (r.sq != nextI l r.cl) = false := by simpa using h.sq
  have g5 : (r.sq == 1099511627776) = false := by simpa using h.q
  rw [h.v] at hv
  rw [h.o] at ho
  rw [hf] at hfd
  unfold recL
  rw [hf, if_neg (by simp)]
  generalize loC r.cl l = p at hfd hlo ⊢
  rw [rpl_rw] at hc ⊢
  refine den_of_body k_session_Record_g ⟨rfl, Nat.le_of_ble_eq_true rfl, thaw_intro ?_⟩
  unfold c_session_Record_g
  simp only [go_sem]
  refine t_call_intro (hv) ?_
  simp only [g1, g2, go_sem]
  refine t_call_intro (ho) ?_
  simp only [go_sem]
  refine t_call_intro (hn) ?_
  simp only [g4, g5, go_sem]
  refine t_loopO_intro [.slotM 6 66 3] (fun k : Nat => k ≤ l.length) (fun k => l.length - k) 0 [6, 8, 9, 11, 46, 47, 48, 49, 50, 51, 52, 53, 54, 55, 56, 57, 58, 59, 60, 61, 62, 63, 64, 65, 66, 67, 68, 69, 70, 71, 72, 73, 74] (fun k => [(6, .own 0), (46, .a (.int .i64 k))]) (fun k => [[.a (.int .i64 r.cl), .a (.int .i64 r.sq), .a (.int .i64 r.st), .a (.int .i64 r.cd), .a (.slice 3 (r.out.map Vl.row))]]) (fun k => [⟨66, 3, (l.take k).map Ses.row, true⟩]) (by omega) (by simp) (by simp) (by simp) (by simp) (fun k => by simp) (fun k => by simp) (fun k => by simp) ?_
  intro k hk st_ hst
  simp only [go_sem] at hst
  subst hst
  by_cases hlt : k < l.length
  · have i1 : (k : Int) < (l.length : Int) := by omega
    have ewi := wrap1 k l.length hlt (by omega)
    have e := getD_map Ses.row l k hlt
    have er := ses_rw l[k]
    have hs := (sessV_asc h.v).2 l[k] (List.getElem_mem hlt)
    have hs8 : l[k].rs.length ≤ 8 := by
      unfold sesV at hs
      rw [Bool.and_eq_true] at hs
      have := (sHead_of hs.1).l8
      omega
    have hcl : ∀ x ∈ l[k].rs, outV x.st x.cd x.out = true := fun x hx => (ses_cl hs x hx).2
    have hkl : (l.take k).length = k := by rw [List.length_take]; omega
    have rr := take_row Ses.row l k hlt
    rw [er] at rr
    generalize l[k] = s at e er hs8 hcl rr
    simp only [i1, e, er, go_sem]
    refine t_loopO_intro [.cell 2 2 40 5] (fun j : Nat => j ≤ s.rs.length) (fun j => s.rs.length - j) 0 [11, 58, 59, 60, 61, 62, 63, 64, 65, 66, 67, 68, 69] (fun j => [(58, .a (.int .i64 j))]) (fun j => [[.a (.int .i64 r.cl), .a (.int .i64 r.sq), .a (.int .i64 r.st), .a (.int .i64 r.cd), .a (.slice 3 (r.out.map Vl.row))], [.a (.int .i64 s.cl), .a (.int .i64 s.nx), .a (.slice 5 (s.rs.map Rpl.row))], [.a (.int .i64 s.cl), .a (.int .i64 s.nx), .own 1]]) (fun j => [⟨66, 3, (l.take k).map Ses.row, true⟩, ⟨40, 5, (s.rs.take j).map Rpl.row, false⟩]) (by omega) (by simp) (by simp) (by simp) (by simp) (fun j => by simp) (fun j => by simp) (fun j => by simp) ?_
    intro j hkj st_ hst
    simp only [go_sem] at hst
    subst hst
    by_cases hltj : j < s.rs.length
    · have i2 : (j : Int) < (s.rs.length : Int) := by omega
      have ewj := wrap1 j s.rs.length hltj (by omega)
      have ej := getD_map Rpl.row s.rs j hltj
      have eq_ := rpl_rw s.rs[j]
      have hcj := cloneR_den s.rs[j] (by have := outV_len (hcl _ (List.getElem_mem hltj)); omega)
      have rj := take_row Rpl.row s.rs j hltj
      have hjl : (s.rs.take j).length = j := by rw [List.length_take]; omega
      rw [eq_] at hcj rj
      simp only [i2, ej, eq_, go_sem]
      refine t_call_intro (hcj) ?_
      simp only [hjl, go_sem]
      refine t_gate_intro (by omega) ?_
      simp only [ewj, go_sem]
      refine t_roundO (j + 1) (by omega) (by omega) (by first | (simp; done) | simp [rj]) (by first | (simp; done) | simp [rj]) (by first | (simp; done) | simp [rj]) (by first | (simp; done) | simp [rj]) (by first | (simp; done) | simp [rj])
    · have i2 : ¬ (j : Int) < (s.rs.length : Int) := by omega
      obtain rfl : j = s.rs.length := by omega
      simp only [i2, go_sem]
      refine t_bare_no ?_
      have tl : s.rs.take s.rs.length = s.rs := List.take_length
      simp only [tl, hkl, go_sem]
      refine t_gate_intro (by omega) ?_
      simp only [ewi, go_sem]
      refine t_roundO (k + 1) (by omega) (by omega) (by first | (simp; done) | simp [rr]) (by first | (simp; done) | simp [rr]) (by first | (simp; done) | simp [rr]) (by first | (simp; done) | simp [rr]) (by first | (simp; done) | simp [rr])
  · have i1 : ¬ (k : Int) < (l.length : Int) := by omega
    obtain rfl : k = l.length := by omega
    have tl : l.take l.length = l := List.take_length
    rw [tl]
    simp only [i1, go_sem]
    refine t_callT_intro (hfd) rfl ?_
    simp only [go_sem]
    refine t_callI_intro (ins_iden 0 p (l.map Ses.row) _ _ _ rfl (by simpa using hlo) (by rw [List.length_map]; omega) (by rw [List.length_map]; omega)) ?_
    have hAl : ((l.map Ses.row).take p).length = p := by rw [List.length_take, List.length_map]; omega
    have hrw : (l.take p ++ [(⟨r.cl, r.sq + 1, [r]⟩ : Ses)] ++ l.drop p).map Ses.row = (l.map Ses.row).take p ++ [Ses.row ⟨r.cl, r.sq + 1, [r]⟩] ++ (l.map Ses.row).drop p := by
      simp only [List.map_append, List.map_cons, List.map_nil, List.map_take, List.map_drop]
    rw [hrw]
    have hBl : ((l.map Ses.row).drop p).length ≤ 32 := by rw [List.length_drop, List.length_map]; omega
    generalize (l.map Ses.row).take p = A at hAl ⊢
    generalize (l.map Ses.row).drop p = B at hBl ⊢
    have e1 : ∀ x : List Atom, (A ++ [x] ++ B).getD p [] = x := fun x => by
      rw [List.append_assoc, List.getD_eq_getElem?_getD, List.getElem?_append_right (by omega), hAl]; simp
    have e2 : ∀ x y : List Atom, (A ++ [x] ++ B).set p y = A ++ [y] ++ B := fun x y => by
      rw [List.append_assoc, List.set_append_right _ _ (by omega), hAl]; simp
    have g6 : (p : Int) < ((A.length + 1 + B.length : Nat) : Int) := by omega
    have w2 : IntKind.i64.wrap (r.sq + 1) = r.sq + 1 := by rw [IntKind.wrap_i64]; omega
    have w7 : IntKind.i64.wrap (((1 : Nat) : Int) - 8) = -7 := by decide
    have g7 : p < A.length + 1 + B.length := by omega
    simp only [g6, g7, e1, go_sem]
    refine t_call_intro (hc) ?_
    simp only [go_sem]
    refine t_gate_intro (by decide) ?_
    simp only [g6, g7, e1, e2, w2, w7, go_sem]
    refine t_gate_intro (by decide) ?_
    have w8 : (if (0 : Int) > -7 then (0 : Int) else -7) = 0 := by decide
    simp only [g6, g7, e1, e2, w8, go_sem]
    simp only [aresult, ares, go_sem]
end Go.Proofs.Ytbiongfnbbnndaa
