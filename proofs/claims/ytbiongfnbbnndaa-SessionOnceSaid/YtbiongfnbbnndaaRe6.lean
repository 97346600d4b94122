/- Chapter 37: the reference's Record where it accepts. -/
import Derived.Test.YtbiongfnbbnndaaRd
set_option linter.unusedSimpArgs false
set_option linter.unusedVariables false
namespace Go.Proofs.Ytbiongfnbbnndaa
open Go Ab Go.RowKit
set_option maxRecDepth 100000
attribute [local irreducible] awp aops aop asoft aeff aloop acall acallI acallT
attribute [local go_sem] Vl.row sRow fpRow Req.row Rpl.row Ses.row

set_option maxHeartbeats 32000000 in
theorem rrecord_ok (l : List Ses) (hb : SesBulk l) (r : Rpl) (hr : VlsFit r.out) (h : RecIn l r) :
    PDen Try.prog 21 [.a (.slice 3 (l.map Ses.row)), .agg r.row] (.tup [.a (.slice 3 ((recL l r).map Ses.row)), .a (.int .i64 0)]) := by
  have hv := rsessV_den l hb.fit
  have ho := routV_den r.st r.cd r.out hr
  have hn := rfindC_den l r.cl hb.fit.len
  have ha := (sessV_asc h.v).1
  obtain ⟨h0, h1, h2⟩ := loC_spec r.cl l ha
  have hl := sess_len2 h.v
  have hq := next_in h.v r.cl
  rw [← h.sq] at hq
  have h8 := fnd_len l h.v r.cl
  have g1 := h.c1
  have g2 := h.c2
  have hnx := nextI_fnd l r.cl
  have g4 : (r.sq != nextI l r.cl) = false := by simpa using h.sq
  have g5 : (r.sq == 1099511627776) = false := by simpa using h.q
  rw [ses_rw, hnx] at hn
  rw [h.v] at hv
  rw [h.o] at ho
  rw [recL_eq l r ha]
  unfold newS
  generalize loC r.cl l = p at h0 h1 h2 ⊢
  generalize (fndC l r.cl).rs = rs at hn h8 ⊢
  have w2 : IntKind.i64.wrap (r.sq + 1) = r.sq + 1 := by rw [IntKind.wrap_i64]; omega
  have hres : (l.take p ++ [(⟨r.cl, r.sq + 1, last8 (rs ++ [r])⟩ : Ses)] ++ l.filter (fun s => decide (r.cl < s.cl))).map Ses.row = (l.take p).map Ses.row ++ [Ses.row ⟨r.cl, r.sq + 1, last8 (rs ++ [r])⟩] ++ (l.filter (fun s => decide (r.cl < s.cl))).map Ses.row := by
    simp only [List.map_append, List.map_cons, List.map_nil]
  rw [hres]
  have hpl : (l.take p).length = p := by rw [List.length_take]; omega
  rw [rpl_rw]
  refine den_of_body k_ref37_Record ⟨rfl, Nat.le_of_ble_eq_true rfl, thaw_intro ?_⟩
  unfold c_ref37_Record
  simp only [go_sem]
  refine t_call_intro (hv) ?_
  simp only [g1, g2, go_sem]
  refine t_call_intro (ho) ?_
  simp only [go_sem]
  refine t_call_intro (hn) ?_
  simp only [g4, g5, go_sem]
  refine t_gate_intro (by omega) ?_
  simp only [go_sem]
  refine t_gate_intro (by omega) ?_
  simp only [go_sem]
  by_cases q8 : rs.length = 8
  · have c8 : (8 : Int) < ((rs.length + 1 : Nat) : Int) := by omega
    have e8 : (last8 (rs ++ [r])).map Rpl.row = (rs.map Rpl.row ++ [r.row]).drop 1 := by
      unfold last8
      rw [List.map_drop, List.length_append, List.map_append]
      rw [show rs.length + [r].length - 8 = 1 by simp only [List.length_cons, List.length_nil]; omega]; rfl
    rw [rpl_rw] at e8
    have tk : ((rs.map Rpl.row ++ [([.int .i64 r.cl, .int .i64 r.sq, .int .i64 r.st, .int .i64 r.cd, .slice 3 (r.out.map Vl.row)] : List Atom)]) : List (List Atom)).take (rs.length + 1) = (rs.map Rpl.row ++ [([.int .i64 r.cl, .int .i64 r.sq, .int .i64 r.st, .int .i64 r.cd, .slice 3 (r.out.map Vl.row)] : List Atom)]) := List.take_of_length_le (by simp)
    simp only [c8, go_sem]
    refine t_gate_intro (by omega) ?_
    simp only [tk, go_sem]
    refine t_loopO_intro [.slot 8 66 3] (fun k : Nat => k ≤ p) (fun k => p - k) 0 [8, 9, 55, 56, 57, 58, 59, 60, 61, 62, 63, 64, 65, 66, 67, 68, 69, 70, 71, 72, 73, 74, 75, 76, 77] (fun k => [(8, .own 1), (9, .a (.int .i64 k))]) (fun k => [[.a (.int .i64 r.cl), .a (.int .i64 r.sq), .a (.int .i64 r.st), .a (.int .i64 r.cd), .a (.slice 3 (r.out.map Vl.row))], [.a (.int .i64 (fndC l r.cl).cl), .a (.int .i64 (nextI l r.cl)), .a (.slice 5 (rs.map Rpl.row))]]) (fun k => [⟨40, 5, (rs.map Rpl.row ++ [([.int .i64 r.cl, .int .i64 r.sq, .int .i64 r.st, .int .i64 r.cd, .slice 3 (r.out.map Vl.row)] : List Atom)]), false⟩, ⟨66, 3, (l.take k).map Ses.row, false⟩]) (by omega) (by simp) (by simp) (by simp) (by simp) (fun k => by simp) (fun k => by simp) (fun k => by simp) ?_
    intro k hk st_ hst
    simp only [go_sem] at hst
    subst hst
    by_cases hlt : k < p
    · have hkl : k < l.length := by omega
      have i1 : (k : Int) < (l.length : Int) := by omega
      have ewi := wrap1 k l.length hkl (by omega)
      have e := getD_map Ses.row l k hkl
      have er := ses_rw l[k]
      have c1 : l[k].cl < r.cl := (cmpC_lt _ _).1 (h1 k hkl hlt)
      have rr := take_row Ses.row l k hkl
      have hkk : (l.take k).length = k := by rw [List.length_take]; omega
      rw [er] at rr
      simp only [i1, e, er, c1, hkk, go_sem]
      refine t_gate_intro (by omega) ?_
      simp only [ewi, go_sem]
      refine t_roundO (k + 1) (by omega) (by omega) (by first | (simp; done) | simp [rr]) (by first | (simp; done) | simp [rr]) (by first | (simp; done) | simp [rr]) (by first | (simp; done) | simp [rr]) (by first | (simp; done) | simp [rr])
    · obtain rfl : k = p := by omega
      by_cases hkl : k < l.length
      · have i1 : (k : Int) < (l.length : Int) := by omega
        have e := getD_map Ses.row l k hkl
        have er := ses_rw l[k]
        have c1 : ¬ l[k].cl < r.cl := fun q => h2 k hkl (Nat.le_refl _) ((cmpC_lt _ _).2 q)
        simp only [i1, e, er, c1, hpl, go_sem]
        refine t_gate_intro (by omega) ?_
        simp only [w2, go_sem]
        refine t_loopO_intro [] (fun j : Nat => j ≤ l.length) (fun j => l.length - j) 0 [8, 10, 88, 89, 90, 91, 92, 93, 94, 95, 96, 97, 98, 99, 100, 101, 102, 103, 104, 105, 106, 107, 108] (fun j => [(8, .own 1), (10, .a (.int .i64 j)), (87, .any)]) (fun j => [[.a (.int .i64 r.cl), .a (.int .i64 r.sq), .a (.int .i64 r.st), .a (.int .i64 r.cd), .a (.slice 3 (r.out.map Vl.row))], [.a (.int .i64 (fndC l r.cl).cl), .a (.int .i64 (nextI l r.cl)), .a (.slice 5 (rs.map Rpl.row))]]) (fun j => [⟨40, 5, (rs.map Rpl.row ++ [([.int .i64 r.cl, .int .i64 r.sq, .int .i64 r.st, .int .i64 r.cd, .slice 3 (r.out.map Vl.row)] : List Atom)]), false⟩, ⟨66, 3, (l.take k).map Ses.row ++ [[.int .i64 r.cl, .int .i64 (r.sq + 1), .slice 5 ((rs.map Rpl.row ++ [([.int .i64 r.cl, .int .i64 r.sq, .int .i64 r.st, .int .i64 r.cd, .slice 3 (r.out.map Vl.row)] : List Atom)]).drop 1)]] ++ ((l.take j).filter (fun s => decide (r.cl < s.cl))).map Ses.row, false⟩]) (by omega) (by simp) (by simp) (by simp) (by simp) (fun j => by simp) (fun j => by simp) (fun j => by simp) ?_
        intro j hkj st_ hst
        simp only [go_sem] at hst
        subst hst
        by_cases hltj : j < l.length
        · have i2 : (j : Int) < (l.length : Int) := by omega
          have ewj := wrap1 j l.length hltj (by omega)
          have e2 := getD_map Ses.row l j hltj
          have er2 := ses_rw l[j]
          have rf := filt_take r.cl l j hltj
          have hfl : ((l.take j).filter (fun s => decide (r.cl < s.cl))).length ≤ 32 := Nat.le_trans (List.length_filter_le _ _) (by rw [List.length_take]; omega)
          by_cases c2 : r.cl < l[j].cl
          · rw [if_pos c2] at rf
            have rm : ((l.take (j + 1)).filter (fun s => decide (r.cl < s.cl))).map Ses.row = ((l.take j).filter (fun s => decide (r.cl < s.cl))).map Ses.row ++ [[.int .i64 l[j].cl, .int .i64 l[j].nx, .slice 5 (l[j].rs.map Rpl.row)]] := by rw [rf, List.map_append]; rfl
            simp only [i2, e2, er2, c2, hpl, go_sem]
            refine t_gate_intro (by omega) ?_
            simp only [ewj, go_sem]
            refine t_roundO (j + 1) (by omega) (by omega) (by first | (simp; done) | simp [rm]) (by first | (simp; done) | simp [rm]) (by first | (simp only [rm]; simp; done) | simp [rm]) (by first | (simp; done) | simp [rm]) (by first | (simp; done) | simp [rm])
          · rw [if_neg c2, List.append_nil] at rf
            simp only [i2, e2, er2, c2, ewj, go_sem]
            refine t_roundO (j + 1) (by omega) (by omega) (by first | (simp; done) | simp [rf]) (by first | (simp; done) | simp [rf]) (by first | (simp only [rf]; simp; done) | simp [rf]) (by first | (simp; done) | simp [rf]) (by first | (simp; done) | simp [rf])
        · have i2 : ¬ (j : Int) < (l.length : Int) := by omega
          obtain rfl : j = l.length := by omega
          have tl : l.take l.length = l := List.take_length
          simp only [i2, tl, go_sem]
          rw [e8]
          simp only [aresult, ares, go_sem]
      · have i1 : ¬ (k : Int) < (l.length : Int) := by omega
        simp only [i1, hpl, go_sem]
        refine t_gate_intro (by omega) ?_
        simp only [w2, go_sem]
        refine t_loopO_intro [] (fun j : Nat => j ≤ l.length) (fun j => l.length - j) 0 [8, 10, 88, 89, 90, 91, 92, 93, 94, 95, 96, 97, 98, 99, 100, 101, 102, 103, 104, 105, 106, 107, 108] (fun j => [(8, .own 1), (10, .a (.int .i64 j)), (87, .any)]) (fun j => [[.a (.int .i64 r.cl), .a (.int .i64 r.sq), .a (.int .i64 r.st), .a (.int .i64 r.cd), .a (.slice 3 (r.out.map Vl.row))], [.a (.int .i64 (fndC l r.cl).cl), .a (.int .i64 (nextI l r.cl)), .a (.slice 5 (rs.map Rpl.row))]]) (fun j => [⟨40, 5, (rs.map Rpl.row ++ [([.int .i64 r.cl, .int .i64 r.sq, .int .i64 r.st, .int .i64 r.cd, .slice 3 (r.out.map Vl.row)] : List Atom)]), false⟩, ⟨66, 3, (l.take k).map Ses.row ++ [[.int .i64 r.cl, .int .i64 (r.sq + 1), .slice 5 ((rs.map Rpl.row ++ [([.int .i64 r.cl, .int .i64 r.sq, .int .i64 r.st, .int .i64 r.cd, .slice 3 (r.out.map Vl.row)] : List Atom)]).drop 1)]] ++ ((l.take j).filter (fun s => decide (r.cl < s.cl))).map Ses.row, false⟩]) (by omega) (by simp) (by simp) (by simp) (by simp) (fun j => by simp) (fun j => by simp) (fun j => by simp) ?_
        intro j hkj st_ hst
        simp only [go_sem] at hst
        subst hst
        by_cases hltj : j < l.length
        · have i2 : (j : Int) < (l.length : Int) := by omega
          have ewj := wrap1 j l.length hltj (by omega)
          have e2 := getD_map Ses.row l j hltj
          have er2 := ses_rw l[j]
          have rf := filt_take r.cl l j hltj
          have hfl : ((l.take j).filter (fun s => decide (r.cl < s.cl))).length ≤ 32 := Nat.le_trans (List.length_filter_le _ _) (by rw [List.length_take]; omega)
          by_cases c2 : r.cl < l[j].cl
          · rw [if_pos c2] at rf
            have rm : ((l.take (j + 1)).filter (fun s => decide (r.cl < s.cl))).map Ses.row = ((l.take j).filter (fun s => decide (r.cl < s.cl))).map Ses.row ++ [[.int .i64 l[j].cl, .int .i64 l[j].nx, .slice 5 (l[j].rs.map Rpl.row)]] := by rw [rf, List.map_append]; rfl
            simp only [i2, e2, er2, c2, hpl, go_sem]
            refine t_gate_intro (by omega) ?_
            simp only [ewj, go_sem]
            refine t_roundO (j + 1) (by omega) (by omega) (by first | (simp; done) | simp [rm]) (by first | (simp; done) | simp [rm]) (by first | (simp only [rm]; simp; done) | simp [rm]) (by first | (simp; done) | simp [rm]) (by first | (simp; done) | simp [rm])
          · rw [if_neg c2, List.append_nil] at rf
            simp only [i2, e2, er2, c2, ewj, go_sem]
            refine t_roundO (j + 1) (by omega) (by omega) (by first | (simp; done) | simp [rf]) (by first | (simp; done) | simp [rf]) (by first | (simp only [rf]; simp; done) | simp [rf]) (by first | (simp; done) | simp [rf]) (by first | (simp; done) | simp [rf])
        · have i2 : ¬ (j : Int) < (l.length : Int) := by omega
          obtain rfl : j = l.length := by omega
          have tl : l.take l.length = l := List.take_length
          simp only [i2, tl, go_sem]
          rw [e8]
          simp only [aresult, ares, go_sem]
  · have c8 : ¬ (8 : Int) < ((rs.length + 1 : Nat) : Int) := by omega
    have e8 : (last8 (rs ++ [r])).map Rpl.row = (rs.map Rpl.row ++ [r.row]) := by
      unfold last8
      rw [List.map_drop, List.length_append, List.map_append]
      rw [show rs.length + [r].length - 8 = 0 by simp only [List.length_cons, List.length_nil]; omega]; rfl
    rw [rpl_rw] at e8
    simp only [c8, go_sem]
    refine t_loopO_intro [.slot 8 66 3] (fun k : Nat => k ≤ p) (fun k => p - k) 0 [8, 9, 55, 56, 57, 58, 59, 60, 61, 62, 63, 64, 65, 66, 67, 68, 69, 70, 71, 72, 73, 74, 75, 76, 77] (fun k => [(8, .own 1), (9, .a (.int .i64 k))]) (fun k => [[.a (.int .i64 r.cl), .a (.int .i64 r.sq), .a (.int .i64 r.st), .a (.int .i64 r.cd), .a (.slice 3 (r.out.map Vl.row))], [.a (.int .i64 (fndC l r.cl).cl), .a (.int .i64 (nextI l r.cl)), .a (.slice 5 (rs.map Rpl.row))]]) (fun k => [⟨40, 5, (rs.map Rpl.row ++ [([.int .i64 r.cl, .int .i64 r.sq, .int .i64 r.st, .int .i64 r.cd, .slice 3 (r.out.map Vl.row)] : List Atom)]), false⟩, ⟨66, 3, (l.take k).map Ses.row, false⟩]) (by omega) (by simp) (by simp) (by simp) (by simp) (fun k => by simp) (fun k => by simp) (fun k => by simp) ?_
    intro k hk st_ hst
    simp only [go_sem] at hst
    subst hst
    by_cases hlt : k < p
    · have hkl : k < l.length := by omega
      have i1 : (k : Int) < (l.length : Int) := by omega
      have ewi := wrap1 k l.length hkl (by omega)
      have e := getD_map Ses.row l k hkl
      have er := ses_rw l[k]
      have c1 : l[k].cl < r.cl := (cmpC_lt _ _).1 (h1 k hkl hlt)
      have rr := take_row Ses.row l k hkl
      have hkk : (l.take k).length = k := by rw [List.length_take]; omega
      rw [er] at rr
      simp only [i1, e, er, c1, hkk, go_sem]
      refine t_gate_intro (by omega) ?_
      simp only [ewi, go_sem]
      refine t_roundO (k + 1) (by omega) (by omega) (by first | (simp; done) | simp [rr]) (by first | (simp; done) | simp [rr]) (by first | (simp; done) | simp [rr]) (by first | (simp; done) | simp [rr]) (by first | (simp; done) | simp [rr])
    · obtain rfl : k = p := by omega
      by_cases hkl : k < l.length
      · have i1 : (k : Int) < (l.length : Int) := by omega
        have e := getD_map Ses.row l k hkl
        have er := ses_rw l[k]
        have c1 : ¬ l[k].cl < r.cl := fun q => h2 k hkl (Nat.le_refl _) ((cmpC_lt _ _).2 q)
        simp only [i1, e, er, c1, hpl, go_sem]
        refine t_gate_intro (by omega) ?_
        simp only [w2, go_sem]
        refine t_loopO_intro [] (fun j : Nat => j ≤ l.length) (fun j => l.length - j) 0 [8, 10, 88, 89, 90, 91, 92, 93, 94, 95, 96, 97, 98, 99, 100, 101, 102, 103, 104, 105, 106, 107, 108] (fun j => [(8, .own 1), (10, .a (.int .i64 j)), (87, .any)]) (fun j => [[.a (.int .i64 r.cl), .a (.int .i64 r.sq), .a (.int .i64 r.st), .a (.int .i64 r.cd), .a (.slice 3 (r.out.map Vl.row))], [.a (.int .i64 (fndC l r.cl).cl), .a (.int .i64 (nextI l r.cl)), .a (.slice 5 (rs.map Rpl.row))]]) (fun j => [⟨40, 5, (rs.map Rpl.row ++ [([.int .i64 r.cl, .int .i64 r.sq, .int .i64 r.st, .int .i64 r.cd, .slice 3 (r.out.map Vl.row)] : List Atom)]), false⟩, ⟨66, 3, (l.take k).map Ses.row ++ [[.int .i64 r.cl, .int .i64 (r.sq + 1), .slice 5 (rs.map Rpl.row ++ [([.int .i64 r.cl, .int .i64 r.sq, .int .i64 r.st, .int .i64 r.cd, .slice 3 (r.out.map Vl.row)] : List Atom)])]] ++ ((l.take j).filter (fun s => decide (r.cl < s.cl))).map Ses.row, false⟩]) (by omega) (by simp) (by simp) (by simp) (by simp) (fun j => by simp) (fun j => by simp) (fun j => by simp) ?_
        intro j hkj st_ hst
        simp only [go_sem] at hst
        subst hst
        by_cases hltj : j < l.length
        · have i2 : (j : Int) < (l.length : Int) := by omega
          have ewj := wrap1 j l.length hltj (by omega)
          have e2 := getD_map Ses.row l j hltj
          have er2 := ses_rw l[j]
          have rf := filt_take r.cl l j hltj
          have hfl : ((l.take j).filter (fun s => decide (r.cl < s.cl))).length ≤ 32 := Nat.le_trans (List.length_filter_le _ _) (by rw [List.length_take]; omega)
          by_cases c2 : r.cl < l[j].cl
          · rw [if_pos c2] at rf
            have rm : ((l.take (j + 1)).filter (fun s => decide (r.cl < s.cl))).map Ses.row = ((l.take j).filter (fun s => decide (r.cl < s.cl))).map Ses.row ++ [[.int .i64 l[j].cl, .int .i64 l[j].nx, .slice 5 (l[j].rs.map Rpl.row)]] := by rw [rf, List.map_append]; rfl
            simp only [i2, e2, er2, c2, hpl, go_sem]
            refine t_gate_intro (by omega) ?_
            simp only [ewj, go_sem]
            refine t_roundO (j + 1) (by omega) (by omega) (by first | (simp; done) | simp [rm]) (by first | (simp; done) | simp [rm]) (by first | (simp only [rm]; simp; done) | simp [rm]) (by first | (simp; done) | simp [rm]) (by first | (simp; done) | simp [rm])
          · rw [if_neg c2, List.append_nil] at rf
            simp only [i2, e2, er2, c2, ewj, go_sem]
            refine t_roundO (j + 1) (by omega) (by omega) (by first | (simp; done) | simp [rf]) (by first | (simp; done) | simp [rf]) (by first | (simp only [rf]; simp; done) | simp [rf]) (by first | (simp; done) | simp [rf]) (by first | (simp; done) | simp [rf])
        · have i2 : ¬ (j : Int) < (l.length : Int) := by omega
          obtain rfl : j = l.length := by omega
          have tl : l.take l.length = l := List.take_length
          simp only [i2, tl, go_sem]
          rw [e8]
          simp only [aresult, ares, go_sem]
      · have i1 : ¬ (k : Int) < (l.length : Int) := by omega
        simp only [i1, hpl, go_sem]
        refine t_gate_intro (by omega) ?_
        simp only [w2, go_sem]
        refine t_loopO_intro [] (fun j : Nat => j ≤ l.length) (fun j => l.length - j) 0 [8, 10, 88, 89, 90, 91, 92, 93, 94, 95, 96, 97, 98, 99, 100, 101, 102, 103, 104, 105, 106, 107, 108] (fun j => [(8, .own 1), (10, .a (.int .i64 j)), (87, .any)]) (fun j => [[.a (.int .i64 r.cl), .a (.int .i64 r.sq), .a (.int .i64 r.st), .a (.int .i64 r.cd), .a (.slice 3 (r.out.map Vl.row))], [.a (.int .i64 (fndC l r.cl).cl), .a (.int .i64 (nextI l r.cl)), .a (.slice 5 (rs.map Rpl.row))]]) (fun j => [⟨40, 5, (rs.map Rpl.row ++ [([.int .i64 r.cl, .int .i64 r.sq, .int .i64 r.st, .int .i64 r.cd, .slice 3 (r.out.map Vl.row)] : List Atom)]), false⟩, ⟨66, 3, (l.take k).map Ses.row ++ [[.int .i64 r.cl, .int .i64 (r.sq + 1), .slice 5 (rs.map Rpl.row ++ [([.int .i64 r.cl, .int .i64 r.sq, .int .i64 r.st, .int .i64 r.cd, .slice 3 (r.out.map Vl.row)] : List Atom)])]] ++ ((l.take j).filter (fun s => decide (r.cl < s.cl))).map Ses.row, false⟩]) (by omega) (by simp) (by simp) (by simp) (by simp) (fun j => by simp) (fun j => by simp) (fun j => by simp) ?_
        intro j hkj st_ hst
        simp only [go_sem] at hst
        subst hst
        by_cases hltj : j < l.length
        · have i2 : (j : Int) < (l.length : Int) := by omega
          have ewj := wrap1 j l.length hltj (by omega)
          have e2 := getD_map Ses.row l j hltj
          have er2 := ses_rw l[j]
          have rf := filt_take r.cl l j hltj
          have hfl : ((l.take j).filter (fun s => decide (r.cl < s.cl))).length ≤ 32 := Nat.le_trans (List.length_filter_le _ _) (by rw [List.length_take]; omega)
          by_cases c2 : r.cl < l[j].cl
          · rw [if_pos c2] at rf
            have rm : ((l.take (j + 1)).filter (fun s => decide (r.cl < s.cl))).map Ses.row = ((l.take j).filter (fun s => decide (r.cl < s.cl))).map Ses.row ++ [[.int .i64 l[j].cl, .int .i64 l[j].nx, .slice 5 (l[j].rs.map Rpl.row)]] := by rw [rf, List.map_append]; rfl
            simp only [i2, e2, er2, c2, hpl, go_sem]
            refine t_gate_intro (by omega) ?_
            simp only [ewj, go_sem]
            refine t_roundO (j + 1) (by omega) (by omega) (by first | (simp; done) | simp [rm]) (by first | (simp; done) | simp [rm]) (by first | (simp only [rm]; simp; done) | simp [rm]) (by first | (simp; done) | simp [rm]) (by first | (simp; done) | simp [rm])
          · rw [if_neg c2, List.append_nil] at rf
            simp only [i2, e2, er2, c2, ewj, go_sem]
            refine t_roundO (j + 1) (by omega) (by omega) (by first | (simp; done) | simp [rf]) (by first | (simp; done) | simp [rf]) (by first | (simp only [rf]; simp; done) | simp [rf]) (by first | (simp; done) | simp [rf]) (by first | (simp; done) | simp [rf])
        · have i2 : ¬ (j : Int) < (l.length : Int) := by omega
          obtain rfl : j = l.length := by omega
          have tl : l.take l.length = l := List.take_length
          simp only [i2, tl, go_sem]
          rw [e8]
          simp only [aresult, ares, go_sem]
end Go.Proofs.Ytbiongfnbbnndaa
