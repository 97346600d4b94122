/- Chapter 37: Record; a client that has a session. -/
import Derived.Test.YtbiongfnbbnndaaRb
set_option linter.unusedSimpArgs false
set_option linter.unusedVariables false
namespace Go.Proofs.Ytbiongfnbbnndaa
open Go Ab Go.RowKit
set_option maxRecDepth 100000
attribute [local irreducible] awp aops aop asoft aeff aloop acall acallI acallT
attribute [local go_sem] Vl.row sRow fpRow Req.row Rpl.row Ses.row

theorem rle_exact (v : Value) (x : Atom) : RLe (.exact v x) x := fun S w u h => by cases h with | exact h => exact h
theorem RLL_set : ∀ (xs : List (List Atom)) (p : Nat) (y : List Atom), (∀ h : p < xs.length, RLs y xs[p]) → RLL (xs.set p y) xs
  | [], _, _, _ => trivial
  | x :: xs, 0, y, h => ⟨h (by simp), RLL.refl xs⟩
  | x :: xs, p + 1, y, h => ⟨RLs.refl x, RLL_set xs p y fun hp => h (by simpa using hp)⟩
/-- A session's row, the value of its replies by name. -/
def xRow (s : Ses) (v : Value) : List Atom := [.int .i64 s.cl, .int .i64 s.nx, .exact v (.slice 5 (s.rs.map Rpl.row))]
def rH (r : Rpl) : List AV := [.a (.int .i64 r.cl), .a (.int .i64 r.sq), .a (.int .i64 r.st), .a (.int .i64 r.cd), .a (.slice 3 (r.out.map Vl.row))]
def HX (r : Rpl) (s : Ses) (p k : Nat) (v : Value) : List (List AV) :=
  if k ≤ p then [rH r] else [rH r, [.a (.int .i64 s.cl), .a (.int .i64 s.nx), .a (.slice 5 (s.rs.map Rpl.row))], [.a (.int .i64 s.cl), .a (.int .i64 s.nx), .ownv 1 v]]
def OX (l : List Ses) (s : Ses) (p k : Nat) (v : Value) : List OwnD :=
  if k ≤ p then [⟨66, 3, (l.take k).map Ses.row, true⟩] else [⟨66, 3, ((l.take k).map Ses.row).set p (xRow s v), true⟩, ⟨40, 5, s.rs.map Rpl.row, false⟩]
section
variable {r : Rpl} {l : List Ses} {s : Ses} {p k : Nat} {v : Value}
theorem HX_lo (h : k ≤ p) : HX r s p k v = [rH r] := if_pos h
theorem HX_hi (h : ¬ k ≤ p) : HX r s p k v = [rH r, [.a (.int .i64 s.cl), .a (.int .i64 s.nx), .a (.slice 5 (s.rs.map Rpl.row))], [.a (.int .i64 s.cl), .a (.int .i64 s.nx), .ownv 1 v]] := if_neg h
theorem OX_lo (h : k ≤ p) : OX l s p k v = [⟨66, 3, (l.take k).map Ses.row, true⟩] := if_pos h
theorem OX_hi (h : ¬ k ≤ p) : OX l s p k v = [⟨66, 3, ((l.take k).map Ses.row).set p (xRow s v), true⟩, ⟨40, 5, s.rs.map Rpl.row, false⟩] := if_neg h
end
set_option maxHeartbeats 32000000 in
theorem record_old (l : List Ses) (hb : SesBulk l) (r : Rpl) (hr : VlsFit r.out) (h : RecIn l r) (hf : foundC l (loC r.cl l) r.cl = true) :
    PDen Try.prog 13 [.a (.slice 3 (l.map Ses.row)), .agg r.row] (.tup [.a (.slice 3 ((recL l r).map Ses.row)), .a (.int .i64 0)]) := by
  have hv := sessV_den l hb.fit
  have ho := outV_den r.st r.cd r.out hr
  have hn := next_den l r.cl hb.fit.len (sessV_asc h.v).1
  have hfd := findC_den l r.cl hb.fit.len (sessV_asc h.v).1
  have hlo := loC_found r.cl l (sessV_asc h.v).1
  have hc := cloneR_den r (by have := outV_len h.o; omega)
  have hl := sess_len2 h.v
  have hq := next_in h.v r.cl
  rw [← h.sq] at hq
  have g1 := h.c1
  have g2 := h.c2
  have g4 : (r.sq != nextI l r.cl) = false := by simpa using h.sq
  have g5 : (r.sq == 1099511627776) = false := by simpa using h.q
  rw [h.v] at hv
  rw [h.o] at ho
  rw [hf] at hfd
  unfold recL
  rw [hf, if_pos rfl]
  replace hlo := (hlo.resolve_left fun q => by rw [hf] at q; cases q.1).2
  generalize loC r.cl l = p at hfd hlo ⊢
  obtain ⟨hp, hso⟩ := hlo
  have hscl := (sOf_mem hso).2
  have egd : l.getD p ⟨0, 0, []⟩ = l[p] := by simp [List.getD_eq_getElem?_getD, hp]
  rw [egd]
  have hlp : ∀ k (hk : k < l.length), k = p → l[k] = l[p] := fun k hk e => by subst e; rfl
  have hsv : ∀ s ∈ l, s.rs.length ≤ 8 ∧ ∀ x ∈ s.rs, outV x.st x.cd x.out = true := fun s hm => by
    have hs := (sessV_asc h.v).2 s hm
    refine ⟨?_, fun x hx => (ses_cl hs x hx).2⟩
    unfold sesV at hs
    rw [Bool.and_eq_true] at hs
    have := (sHead_of hs.1).l8
    omega
  have hs8 := hsv l[p] (List.getElem_mem hp)
  have hrows : (l.map Ses.row)[p]'(by simpa using hp) = l[p].row := by simp
  generalize hsp : l[p] = s at hscl hlp hs8 hrows ⊢
  rw [rpl_rw] at hc ⊢
  refine den_of_body k_session_Record_g ⟨rfl, Nat.le_of_ble_eq_true rfl, thaw_intro ?_⟩
  unfold c_session_Record_g
  simp only [go_sem]
  refine t_call_intro (hv) ?_
  simp only [g1, g2, go_sem]
  refine t_call_intro (ho) ?_
  simp only [go_sem]
  refine t_call_intro (hn) ?_
  simp only [g4, g5, go_sem]
  refine t_loopO_intro [.slotM 6 66 3] (fun q : Nat × Value => q.1 ≤ l.length) (fun q => l.length - q.1) (0, Go.undef) [6, 8, 9, 11, 46, 47, 48, 49, 50, 51, 52, 53, 54, 55, 56, 57, 58, 59, 60, 61, 62, 63, 64, 65, 66, 67, 68, 69, 70, 71, 72, 73, 74] (fun q => [(6, .own 0), (46, .a (.int .i64 (q.1 : Nat)))]) (fun q => HX r s p q.1 q.2) (fun q => OX l s p q.1 q.2)
    (by simp) (by simp) ?_ ?_ ?_ ?_ ?_ ?_ ?_
  · simp
  · simp only [HX_lo (Nat.zero_le p), rH]; simp
  · simp only [OX_lo (Nat.zero_le p)]; simp
  · intro q
    by_cases hk : q.1 ≤ p
    · simp [HX_lo hk]
    · simp [HX_hi hk]
  · intro q
    by_cases hk : q.1 ≤ p
    · simp [HX_lo hk, OX_lo hk]
    · simp [HX_hi hk, OX_hi hk]
  · intro q
    by_cases hk : q.1 ≤ p
    · simp [HX_lo hk, OX_lo hk, rH]
    · simp [HX_hi hk, OX_hi hk, rH]
  rintro ⟨k, v⟩ hk st_ hst
  replace hk : k ≤ l.length := hk
  by_cases hlt : k < l.length
  · have i1 : (k : Int) < (l.length : Int) := by omega
    have ewi := wrap1 k l.length hlt (by omega)
    have e := getD_map Ses.row l k hlt
    have er := ses_rw l[k]
    have hk8 := hsv l[k] (List.getElem_mem hlt)
    have hkl : (l.take k).length = k := by rw [List.length_take]; omega
    have rr := take_row Ses.row l k hlt
    rw [er] at rr
    have hlp := hlp k hlt
    generalize l[k] = s0 at e er hk8 rr hlp
    obtain ⟨hs8', hcl⟩ := hk8
    by_cases hkp : k ≤ p
    · simp only [HX_lo hkp, OX_lo hkp, rH, go_sem] at hst
      subst hst
      simp only [i1, e, er, go_sem]
      refine t_loopO_intro [.cell 2 2 40 5] (fun j : Nat => j ≤ s0.rs.length) (fun j => s0.rs.length - j) 0 [11, 58, 59, 60, 61, 62, 63, 64, 65, 66, 67, 68, 69] (fun j => [(58, .a (.int .i64 j))]) (fun j => [[.a (.int .i64 r.cl), .a (.int .i64 r.sq), .a (.int .i64 r.st), .a (.int .i64 r.cd), .a (.slice 3 (r.out.map Vl.row))], [.a (.int .i64 s0.cl), .a (.int .i64 s0.nx), .a (.slice 5 (s0.rs.map Rpl.row))], [.a (.int .i64 s0.cl), .a (.int .i64 s0.nx), .own 1]]) (fun j => [⟨66, 3, (l.take k).map Ses.row, true⟩, ⟨40, 5, (s0.rs.take j).map Rpl.row, false⟩]) (by omega) (by simp) (by simp) (by simp) (by simp) (fun j => by simp) (fun j => by simp) (fun j => by simp) ?_
      intro j hkj st_ hst
      simp only [go_sem] at hst
      subst hst
      by_cases hltj : j < s0.rs.length
      · have i2 : (j : Int) < (s0.rs.length : Int) := by omega
        have ewj := wrap1 j s0.rs.length hltj (by omega)
        have ej := getD_map Rpl.row s0.rs j hltj
        have eq_ := rpl_rw s0.rs[j]
        have hcj := cloneR_den s0.rs[j] (by have := outV_len (hcl _ (List.getElem_mem hltj)); omega)
        have rj := take_row Rpl.row s0.rs j hltj
        have hjl : (s0.rs.take j).length = j := by rw [List.length_take]; omega
        rw [eq_] at hcj rj
        simp only [i2, ej, eq_, go_sem]
        refine t_call_intro (hcj) ?_
        simp only [hjl, go_sem]
        refine t_gate_intro (by omega) ?_
        simp only [ewj, go_sem]
        refine t_roundO (j + 1) (by omega) (by omega) (by first | (simp; done) | simp [rj]) (by first | (simp; done) | simp [rj]) (by first | (simp; done) | simp [rj]) (by first | (simp; done) | simp [rj]) (by first | (simp; done) | simp [rj])
      · have i2 : ¬ (j : Int) < (s0.rs.length : Int) := by omega
        obtain rfl : j = s0.rs.length := by omega
        simp only [i2, go_sem]
        have tl : s0.rs.take s0.rs.length = s0.rs := List.take_length
        by_cases hkq : k = p
        · obtain rfl : s0 = s := hlp hkq
          refine t_bare_yes fun u => ?_
          simp only [tl, hkl, go_sem]
          refine t_gate_intro (by omega) ?_
          simp only [ewi, go_sem]
          have hk1 : ¬ k + 1 ≤ p := by omega
          have rx : ((l.take (k + 1)).map Ses.row).set p (xRow s0 u) = (l.take k).map Ses.row ++ [xRow s0 u] := by
            rw [rr, List.set_append_right _ _ (by rw [List.length_map, hkl]; omega), List.length_map, hkl, hkq]; simp
          unfold xRow at rx
          refine ⟨(k + 1, u), ?_, ?_, ⟨?_, ?_, ?_, ?_, ?_⟩⟩
          · show k + 1 ≤ l.length; omega
          · show l.length - (k + 1) < l.length - k; omega
          · simp only [HX_hi hk1, OX_hi hk1]; simp
          · simp only [HX_hi hk1, OX_hi hk1, rH]; simp
          · simp only [HX_hi hk1, OX_hi hk1, xRow, rx]; simp
          · simp only [HX_hi hk1, OX_hi hk1]; simp
          · simp only [HX_hi hk1, OX_hi hk1, rH]; simp
        · refine t_bare_no ?_
          simp only [tl, hkl, go_sem]
          refine t_gate_intro (by omega) ?_
          simp only [ewi, go_sem]
          have hk1 : k + 1 ≤ p := by omega
          refine ⟨(k + 1, v), ?_, ?_, ⟨?_, ?_, ?_, ?_, ?_⟩⟩
          · show k + 1 ≤ l.length; omega
          · show l.length - (k + 1) < l.length - k; omega
          · simp only [HX_lo hk1, OX_lo hk1]; simp
          · simp only [HX_lo hk1, OX_lo hk1, rH]; simp
          · simp only [HX_lo hk1, OX_lo hk1, rr]; simp
          · simp only [HX_lo hk1, OX_lo hk1]; simp
          · simp only [HX_lo hk1, OX_lo hk1, rH]; simp
    · simp only [HX_hi hkp, OX_hi hkp, rH, go_sem] at hst
      subst hst
      have hol : (((l.take k).map Ses.row).set p (xRow s v)).length = k := by rw [List.length_set, List.length_map, hkl]
      simp only [i1, e, er, go_sem]
      refine t_loopO_intro [.cell 4 2 40 5] (fun j : Nat => j ≤ s0.rs.length) (fun j => s0.rs.length - j) 0 [11, 58, 59, 60, 61, 62, 63, 64, 65, 66, 67, 68, 69] (fun j => [(58, .a (.int .i64 j))]) (fun j => [[.a (.int .i64 r.cl), .a (.int .i64 r.sq), .a (.int .i64 r.st), .a (.int .i64 r.cd), .a (.slice 3 (r.out.map Vl.row))], [.a (.int .i64 s.cl), .a (.int .i64 s.nx), .a (.slice 5 (s.rs.map Rpl.row))], [.a (.int .i64 s.cl), .a (.int .i64 s.nx), .ownv 1 v], [.a (.int .i64 s0.cl), .a (.int .i64 s0.nx), .a (.slice 5 (s0.rs.map Rpl.row))], [.a (.int .i64 s0.cl), .a (.int .i64 s0.nx), .own 2]]) (fun j => [⟨66, 3, ((l.take k).map Ses.row).set p (xRow s v), true⟩, ⟨40, 5, s.rs.map Rpl.row, false⟩, ⟨40, 5, (s0.rs.take j).map Rpl.row, false⟩]) (by omega) (by simp) (by simp) (by simp) (by simp) (fun j => by simp) (fun j => by simp) (fun j => by simp) ?_
      intro j hkj st_ hst
      simp only [go_sem] at hst
      subst hst
      by_cases hltj : j < s0.rs.length
      · have i2 : (j : Int) < (s0.rs.length : Int) := by omega
        have ewj := wrap1 j s0.rs.length hltj (by omega)
        have ej := getD_map Rpl.row s0.rs j hltj
        have eq_ := rpl_rw s0.rs[j]
        have hcj := cloneR_den s0.rs[j] (by have := outV_len (hcl _ (List.getElem_mem hltj)); omega)
        have rj := take_row Rpl.row s0.rs j hltj
        have hjl : (s0.rs.take j).length = j := by rw [List.length_take]; omega
        rw [eq_] at hcj rj
        simp only [i2, ej, eq_, go_sem]
        refine t_call_intro (hcj) ?_
        simp only [hjl, go_sem]
        refine t_gate_intro (by omega) ?_
        simp only [ewj, go_sem]
        refine t_roundO (j + 1) (by omega) (by omega) (by first | (simp; done) | simp [rj]) (by first | (simp; done) | simp [rj]) (by first | (simp; done) | simp [rj]) (by first | (simp; done) | simp [rj]) (by first | (simp; done) | simp [rj])
      · have i2 : ¬ (j : Int) < (s0.rs.length : Int) := by omega
        obtain rfl : j = s0.rs.length := by omega
        simp only [i2, go_sem]
        have tl : s0.rs.take s0.rs.length = s0.rs := List.take_length
        refine t_bare_no ?_
        simp only [tl, go_sem]
        refine t_gate_intro (by rw [hol]; omega) ?_
        simp only [ewi, go_sem]
        have hk1 : ¬ k + 1 ≤ p := by omega
        have rx : ((l.take (k + 1)).map Ses.row).set p (xRow s v) = ((l.take k).map Ses.row).set p (xRow s v) ++ [[.int .i64 s0.cl, .int .i64 s0.nx, .slice 5 (s0.rs.map Rpl.row)]] := by
          rw [rr, List.set_append_left _ _ (by rw [List.length_map, hkl]; omega)]
        refine ⟨(k + 1, v), ?_, ?_, ⟨?_, ?_, ?_, ?_, ?_⟩⟩
        · show k + 1 ≤ l.length; omega
        · show l.length - (k + 1) < l.length - k; omega
        · simp only [HX_hi hk1, OX_hi hk1]; simp
        · simp only [HX_hi hk1, OX_hi hk1, rH]; simp
        · simp only [HX_hi hk1, OX_hi hk1, rx]; simp
        · simp only [HX_hi hk1, OX_hi hk1]; simp
        · simp only [HX_hi hk1, OX_hi hk1, rH]; simp
  · obtain rfl : k = l.length := by omega
    have hkp : ¬ l.length ≤ p := by omega
    simp only [HX_hi hkp, OX_hi hkp, rH, go_sem] at hst
    subst hst
    have i1 : ¬ (l.length : Int) < (l.length : Int) := by omega
    have tl : l.take l.length = l := List.take_length
    rw [tl]
    have hml : (l.map Ses.row).length = l.length := List.length_map ..
    have hset : ∀ x : List Atom, (l.map Ses.row).set p x = (l.map Ses.row).take p ++ [x] ++ (l.map Ses.row).drop (p + 1) := fun x => by
      rw [List.set_eq_take_append_cons_drop, if_pos (by omega), List.append_assoc]; rfl
    have hfd2 : PDen Try.prog 35 [.a (.slice 3 ((l.map Ses.row).set p (xRow s v))), .a (.int .i64 r.cl)] (.tup [.a (.int .i64 (p : Nat)), .a (.bool true)]) := hfd.args ⟨VLe.a (RLe.slice (RLL_set _ p _ fun hh => by rw [hrows]; exact ⟨RLe.refl _, RLe.refl _, rle_exact _ _, trivial⟩)), VLe.refl _, trivial⟩
    have hAl : ((l.map Ses.row).take p).length = p := by rw [List.length_take]; omega
    have hBl : ((l.map Ses.row).drop (p + 1)).length ≤ 32 := by rw [List.length_drop]; omega
    have hres : (l.set p ⟨r.cl, r.sq + 1, last8 (s.rs ++ [r])⟩).map Ses.row = (l.map Ses.row).take p ++ [Ses.row ⟨r.cl, r.sq + 1, last8 (s.rs ++ [r])⟩] ++ (l.map Ses.row).drop (p + 1) := by
      rw [List.map_set, hset]
    rw [hres]
    rw [hset] at hfd2
    rw [hset]
    generalize (l.map Ses.row).take p = A at hAl hfd2 ⊢
    generalize (l.map Ses.row).drop (p + 1) = B at hBl hfd2 ⊢
    unfold xRow at hfd2 ⊢
    have e1 : ∀ x : List Atom, (A ++ [x] ++ B).getD p [] = x := fun x => by
      rw [List.append_assoc, List.getD_eq_getElem?_getD, List.getElem?_append_right (by omega), hAl]; simp
    have e2 : ∀ x y : List Atom, (A ++ [x] ++ B).set p y = A ++ [y] ++ B := fun x y => by
      rw [List.append_assoc, List.set_append_right _ _ (by omega), hAl]; simp
    have g6 : (p : Int) < ((A.length + 1 + B.length : Nat) : Int) := by omega
    have g7 : p < A.length + 1 + B.length := by omega
    have w2 : IntKind.i64.wrap (r.sq + 1) = r.sq + 1 := by rw [IntKind.wrap_i64]; omega
    simp only [i1, go_sem]
    refine t_callT_intro (hfd2) rfl ?_
    simp only [g6, g7, e1, go_sem]
    refine t_call_intro (hc) ?_
    simp only [go_sem]
    refine t_exact_intro 2 2 rfl ?_
    simp only [go_sem]
    refine t_gate_intro (by omega) ?_
    have w7 : IntKind.i64.wrap (((s.rs.length + 1 : Nat) : Int) - 8) = ((s.rs.length + 1 : Nat) : Int) - 8 := by rw [IntKind.wrap_i64]; omega
    have w8 : (if (0 : Int) > ((s.rs.length + 1 : Nat) : Int) - 8 then (0 : Int) else ((s.rs.length + 1 : Nat) : Int) - 8) = ((s.rs.length + 1 - 8 : Nat) : Int) := by split <;> omega
    simp only [g6, g7, e1, e2, w2, hscl, w7, w8, go_sem]
    refine t_gate_intro (by omega) ?_
    simp only [g6, g7, e1, e2, w2, hscl, go_sem]
    have tk : ((s.rs.map Rpl.row) ++ [r.row]).take (s.rs.length + 1) = (s.rs.map Rpl.row) ++ [r.row] := List.take_of_length_le (by simp)
    have el : (last8 (s.rs ++ [r])).map Rpl.row = ((s.rs.map Rpl.row) ++ [r.row]).drop (s.rs.length + 1 - 8) := by
      unfold last8
      rw [List.map_drop, List.length_append, List.map_append]; rfl
    rw [rpl_rw] at tk el
    rw [tk, el]
    simp only [aresult, ares, go_sem]
end Go.Proofs.Ytbiongfnbbnndaa
