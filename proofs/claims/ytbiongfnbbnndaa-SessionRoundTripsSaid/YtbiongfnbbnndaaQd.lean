/- Chapter 37: the search for a session, the next number, the stored reply; of the program and of the reference. -/
import Derived.Test.YtbiongfnbbnndaaQc
import Derived.Test.YtbiongfnbbnndaaAbP
set_option linter.unusedSimpArgs false
set_option linter.unusedVariables false
namespace Go.Proofs.Ytbiongfnbbnndaa
open Go Ab Go.RowKit
set_option maxRecDepth 100000
attribute [local irreducible] awp aops aop asoft aeff aloop acall acallI acallT
attribute [local go_sem] Vl.row sRow fpRow Req.row Rpl.row Ses.row

def cmpC (a b : Int) : Int := if a < b then -1 else if b < a then 1 else 0
theorem cmpC_den (s : Ses) (c : Int) : PDen Try.prog 58 [.agg s.row, .a (.int .i64 c)] (.a (.int .i64 (cmpC s.cl c))) := by
  unfold cmpC
  by_cases h : s.cl < c
  · rw [if_pos h]
    refine den_of_body k_session_find_1 ⟨rfl, Nat.le_of_ble_eq_true rfl, thaw_intro ?_⟩
    unfold c_session_find_1
    simp only [h, go_sem]
    simp only [aresult, ares, go_sem]
  · rw [if_neg h]
    by_cases h2 : c < s.cl
    · rw [if_pos h2]
      refine den_of_body k_session_find_1 ⟨rfl, Nat.le_of_ble_eq_true rfl, thaw_intro ?_⟩
      unfold c_session_find_1
      simp only [h, h2, go_sem]
      simp only [aresult, ares, go_sem]
    · rw [if_neg h2]
      refine den_of_body k_session_find_1 ⟨rfl, Nat.le_of_ble_eq_true rfl, thaw_intro ?_⟩
      unfold c_session_find_1
      simp only [h, h2, go_sem]
      simp only [aresult, ares, go_sem]
theorem b_cmpC : bodied Try.prog 58 = true := by kernel_rfl
def foundC (l : List Ses) (lo : Nat) (c : Int) : Bool := match l[lo]? with | none => false | some s => cmpC s.cl c == 0
theorem cmpC_lt (a b : Int) : cmpC a b < 0 ↔ a < b := by
  unfold cmpC
  split
  · omega
  · split <;> omega
theorem cmpC_eq (a b : Int) : (cmpC a b == 0) = true ↔ a = b := by
  unfold cmpC
  rw [beq_iff_eq]
  split
  · omega
  · split <;> omega
set_option maxHeartbeats 2000000 in
theorem searchC_den (l : List Ses) (c : Int) (lo : Nat) (hn : l.length ≤ 3600000000000) (hlo : lo ≤ l.length)
    (h1 : ∀ (i : Nat) (hi : i < l.length), i < lo → cmpC l[i].cl c < 0) (h2 : ∀ (i : Nat) (hi : i < l.length), lo ≤ i → ¬ cmpC l[i].cl c < 0) :
    PDen Try.prog 57 [.a (.slice 3 (l.map Ses.row)), .a (.int .i64 c), .clo 58 []] (.tup [.a (.int .i64 lo), .a (.bool (foundC l lo c))]) := by
  refine den_of_body k_slices_BinarySearchFunc_api_Session_api_Session_int ⟨rfl, Nat.le_of_ble_eq_true rfl, thaw_intro ?_⟩
  unfold c_slices_BinarySearchFunc_api_Session_api_Session_int
  simp only [go_sem]
  refine t_loop_intro (fun p : Nat × Nat => p.1 ≤ lo ∧ lo ≤ p.2 ∧ p.2 ≤ l.length) (fun p => p.2 - p.1) (0, l.length) [9, 10, 11, 15, 16, 17, 18, 19, 20, 21, 22, 23, 24, 25, 26, 27, 28, 29, 30, 31, 32, 33, 34] (fun p => [(9, .a (.int .i64 (p.1 : Nat))), (10, .a (.int .i64 (p.2 : Nat)))]) ⟨by simp, hlo, by simp⟩ (by simp) (fun k => by simp) rfl ?_
  intro p hp fr_ hfr
  obtain ⟨a, b⟩ := p
  obtain ⟨ha, hb, hbn⟩ := hp
  simp only at ha hb hbn
  simp only [go_sem] at hfr
  subst hfr
  by_cases hlt : a < b
  · have h3 : (a : Int) < (b : Int) := by omega
    have e1 : IntKind.i64.wrap ((a : Int) + (b : Int)) = ((a + b : Nat) : Int) := by rw [IntKind.wrap_i64]; omega
    have e2 : IntKind.u64.wrap ((a + b : Nat) : Int) = ((a + b : Nat) : Int) := by rw [IntKind.wrap_u64]; omega
    have e3 : Int.fdiv ((a + b : Nat) : Int) (2 ^ (min 1 64)) = (((a + b) / 2 : Nat) : Int) := by
      have : (2 : Int) ^ (min 1 64) = 2 := by decide
      rw [this, Int.fdiv_eq_ediv_of_nonneg _ (by omega)]; omega
    obtain ⟨m, hm⟩ : ∃ m, m = (a + b) / 2 := ⟨_, rfl⟩
    rw [← hm] at e3
    have e4 : IntKind.i64.wrap (m : Int) = (m : Int) := by rw [IntKind.wrap_i64]; omega
    have hml : m < l.length := by omega
    have h5 : (m : Int) < (l.length : Int) := by omega
    have e := getD_map Ses.row l m hml
    have ew := wrap1 m l.length hml (by omega)
    simp only [h3, e1, e2, e3, e4, h5, e, b_cmpC, go_sem]
    refine t_call_intro (cmpC_den l[m] c) ?_
    simp only [go_sem]
    first | refine t_case_dec (fun h6 => ?_) (fun h6 => ?_) | refine t_case_ndec (fun h6 => ?_) (fun h6 => ?_) | refine t_case_eqI (fun h6 => ?_) (fun h6 => ?_) | refine t_case_neI (fun h6 => ?_) (fun h6 => ?_) | refine t_case_not (fun h6 => ?_) (fun h6 => ?_) | refine t_case_intro (fun h6 => ?_) (fun h6 => ?_)
    · have hlo2 : m < lo := by
        apply Classical.byContradiction; intro hh
        exact h2 m hml (by omega) h6
      simp only [ew, go_sem]
      exact ⟨(m + 1, b), ⟨by simp only; omega, by simp only; omega, by simp only; omega⟩, by simp only; omega, ⟨by simp, rfl, rfl, by simp, rfl⟩⟩
    · have hlo2 : lo ≤ m := by
        apply Classical.byContradiction; intro hh
        exact h6 (h1 m hml (by omega))
      simp only [go_sem]
      exact ⟨(a, m), ⟨by simp only; omega, by simp only; omega, by simp only; omega⟩, by simp only; omega, ⟨by simp, rfl, rfl, by simp, rfl⟩⟩
  · have h3 : ¬ (a : Int) < (b : Int) := by omega
    have hal : a = lo := by omega
    subst hal
    simp only [h3, go_sem]
    first | refine t_case_dec (fun h4 => ?_) (fun h4 => ?_) | refine t_case_ndec (fun h4 => ?_) (fun h4 => ?_) | refine t_case_eqI (fun h4 => ?_) (fun h4 => ?_) | refine t_case_neI (fun h4 => ?_) (fun h4 => ?_) | refine t_case_not (fun h4 => ?_) (fun h4 => ?_) | refine t_case_intro (fun h4 => ?_) (fun h4 => ?_)
    · have hal : a < l.length := by omega
      have e := getD_map Ses.row l a hal
      simp only [h4, e, b_cmpC, go_sem]
      refine t_call_intro (cmpC_den l[a] c) ?_
      simp only [go_sem]
      simp only [aresult, ares, go_sem]
      simp [foundC, hal]
    · have hal : ¬ a < l.length := by omega
      simp only [go_sem]
      simp only [aresult, ares, go_sem]
      simp [foundC, hal]
/-! Where a session lies -/
def AscC (l : List Ses) : Prop := l.Pairwise fun a b => a.cl < b.cl
def loC (c : Int) : List Ses → Nat
  | [] => 0
  | s :: ss => if s.cl < c then loC c ss + 1 else 0
def sOf (l : List Ses) (c : Int) : Option Ses := l.find? fun s => s.cl == c
theorem sOf_cons (s : Ses) (l : List Ses) (c : Int) : sOf (s :: l) c = if s.cl = c then some s else sOf l c := by
  unfold sOf
  by_cases h : s.cl = c
  · rw [if_pos h, List.find?_cons_of_pos (by simpa using h)]
  · rw [if_neg h, List.find?_cons_of_neg (by simpa using h)]
theorem sOf_drop (l : List Ses) (c : Int) (k : Nat) (h : k < l.length) : sOf (l.drop k) c = if l[k].cl = c then some l[k] else sOf (l.drop (k + 1)) c := by
  rw [List.drop_eq_getElem_cons h, sOf_cons]
theorem sOf_mem {l : List Ses} {c : Int} {s : Ses} (h : sOf l c = some s) : s ∈ l ∧ s.cl = c := by
  unfold sOf at h
  exact ⟨List.mem_of_find?_eq_some h, by simpa using List.find?_some h⟩
theorem loC_spec (c : Int) : ∀ l : List Ses, AscC l → loC c l ≤ l.length ∧ (∀ (i : Nat) (hi : i < l.length), i < loC c l → cmpC l[i].cl c < 0) ∧ ∀ (i : Nat) (hi : i < l.length), loC c l ≤ i → ¬ cmpC l[i].cl c < 0
  | [], _ => ⟨Nat.le_refl _, fun i hi => by simp at hi, fun i hi => by simp at hi⟩
  | s :: ss, hs => by
    have hs' := List.pairwise_cons.1 hs
    obtain ⟨i1, i2, i3⟩ := loC_spec c ss hs'.2
    unfold loC
    by_cases h : s.cl < c
    · rw [if_pos h]
      refine ⟨by simp only [List.length_cons]; omega, fun i hi hl => ?_, fun i hi hl => ?_⟩
      · cases i with
        | zero => exact (cmpC_lt _ _).2 h
        | succ i => exact i2 i (by simpa using hi) (by omega)
      · cases i with
        | zero => omega
        | succ i => exact i3 i (by simpa using hi) (by omega)
    · rw [if_neg h]
      refine ⟨Nat.zero_le _, fun i hi hl => by omega, fun i hi hl hc => ?_⟩
      rw [cmpC_lt] at hc
      cases i with
      | zero => exact h hc
      | succ i =>
        have hi' : i < ss.length := by simpa using hi
        have h5 := hs'.1 _ (List.getElem_mem hi')
        have hc : ss[i].cl < c := hc
        omega
theorem loC_found (c : Int) : ∀ l : List Ses, AscC l → (foundC l (loC c l) c = false ∧ sOf l c = none) ∨ (foundC l (loC c l) c = true ∧ ∃ hl : loC c l < l.length, sOf l c = some l[loC c l])
  | [], _ => .inl ⟨rfl, rfl⟩
  | s :: ss, hs => by
    have hs' := List.pairwise_cons.1 hs
    rw [sOf_cons]
    by_cases h : s.cl < c
    · have e : loC c (s :: ss) = loC c ss + 1 := if_pos h
      rw [e, if_neg (by omega)]
      rcases loC_found c ss hs'.2 with ⟨h1, h2⟩ | ⟨h1, hl, h2⟩
      · exact .inl ⟨h1, h2⟩
      · exact .inr ⟨h1, by simp only [List.length_cons]; omega, h2⟩
    · have e : loC c (s :: ss) = 0 := if_neg h
      rw [e]
      by_cases h2 : s.cl = c
      · rw [if_pos h2]
        exact .inr ⟨(cmpC_eq _ _).2 h2, by simp, rfl⟩
      · rw [if_neg h2]
        refine .inl ⟨?_, ?_⟩
        · show (cmpC s.cl c == 0) = false
          rw [Bool.eq_false_iff]
          exact fun q => h2 ((cmpC_eq _ _).1 q)
        · unfold sOf
          rw [List.find?_eq_none]
          intro x hx
          have := hs'.1 x hx
          simp; omega
theorem sesGo_asc : ∀ (l : List Ses) (p : Option Ses), sesGo p l = true → (∀ y, p = some y → ∀ x ∈ l, y.cl < x.cl) ∧ AscC l ∧ ∀ x ∈ l, sesV x = true
  | [], _, _ => ⟨fun _ _ _ h => by simp at h, .nil, fun _ h => by simp at h⟩
  | x :: xs, p, h => by
    unfold sesGo at h
    simp only [Bool.and_eq_true] at h
    obtain ⟨⟨h1, h2⟩, h3⟩ := h
    obtain ⟨a1, a2, a3⟩ := sesGo_asc xs (some x) h3
    refine ⟨fun y hy z hz => ?_, List.pairwise_cons.2 ⟨fun z hz => a1 x rfl z hz, a2⟩, fun z hz => ?_⟩
    · subst hy
      have h2 : y.cl < x.cl := of_decide_eq_true h2
      rcases List.mem_cons.1 hz with rfl | hz
      · exact h2
      · exact Int.lt_trans h2 (a1 x rfl z hz)
    · rcases List.mem_cons.1 hz with rfl | hz
      · exact h1
      · exact a3 z hz
theorem sessV_asc {l : List Ses} (h : sessV l = true) : AscC l ∧ ∀ x ∈ l, sesV x = true := (sesGo_asc l none h).2
theorem findC_den (l : List Ses) (c : Int) (hn : l.length ≤ 3600000000000) (ha : AscC l) :
    PDen Try.prog 35 [.a (.slice 3 (l.map Ses.row)), .a (.int .i64 c)] (.tup [.a (.int .i64 (loC c l : Nat)), .a (.bool (foundC l (loC c l) c))]) := by
  obtain ⟨h1, h2, h3⟩ := loC_spec c l ha
  refine den_of_body k_session_find ⟨rfl, Nat.le_of_ble_eq_true rfl, thaw_intro ?_⟩
  unfold c_session_find
  simp only [go_sem]
  refine t_call_intro (searchC_den l c (loC c l) hn h1 h2 h3) ?_
  simp only [go_sem]
  simp only [aresult, ares, go_sem]
def nextI (l : List Ses) (c : Int) : Int := match sOf l c with | none => 1 | some s => s.nx
theorem next_den (l : List Ses) (c : Int) (hn : l.length ≤ 3600000000000) (ha : AscC l) : PDen Try.prog 29 [.a (.slice 3 (l.map Ses.row)), .a (.int .i64 c)] (.a (.int .i64 (nextI l c))) := by
  have hd := findC_den l c hn ha
  unfold nextI
  rcases loC_found c l ha with ⟨h1, h2⟩ | ⟨h1, hl, h2⟩
  · rw [h2]
    rw [h1] at hd
    refine den_of_body k_session_next ⟨rfl, Nat.le_of_ble_eq_true rfl, thaw_intro ?_⟩
    unfold c_session_next
    simp only [go_sem]
    refine t_call_intro (hd) ?_
    simp only [go_sem]
    simp only [aresult, ares, go_sem]
  · rw [h2]
    rw [h1] at hd
    have g1 : ((loC c l : Nat) : Int) < (l.length : Int) := by omega
    have e := getD_map Ses.row l (loC c l) hl
    have er := ses_rw l[loC c l]
    refine den_of_body k_session_next ⟨rfl, Nat.le_of_ble_eq_true rfl, thaw_intro ?_⟩
    unfold c_session_next
    simp only [go_sem]
    refine t_call_intro (hd) ?_
    simp only [g1, e, er, go_sem]
    simp only [aresult, ares, go_sem]
def fndC (l : List Ses) (c : Int) : Ses := match sOf l c with | none => ⟨c, 1, []⟩ | some s => s
theorem nextI_fnd (l : List Ses) (c : Int) : (fndC l c).nx = nextI l c := by
  unfold fndC nextI
  cases sOf l c <;> rfl
set_option maxHeartbeats 2000000 in
theorem rfindC_den (l : List Ses) (c : Int) (hn : l.length ≤ 3600000000000) : PDen Try.prog 38 [.a (.slice 3 (l.map Ses.row)), .a (.int .i64 c)] (.agg (fndC l c).row) := by
  unfold fndC
  cases hr : sOf l c with
  | none =>
    refine PDen.le (r := .agg [.int .i64 c, .int .i64 1, .nils]) ?_ (VLe.agg ⟨RLe.refl _, RLe.refl _, RLe.nils 5, trivial⟩)
    refine den_of_body k_ref37_find ⟨rfl, Nat.le_of_ble_eq_true rfl, thaw_intro ?_⟩
    unfold c_ref37_find
    simp only [go_sem]
    refine t_loop_intro (fun j : Nat => j ≤ l.length ∧ (sOf (l.drop j) c = none)) (fun j => l.length - j) 0 [5, 6, 7, 8, 9, 10, 11, 12, 13, 14, 15, 16, 17, 18, 19, 20, 21, 22] (fun j => [(5, .a (.int .i64 j))]) ⟨by omega, by exact hr⟩ (by simp) (fun j => by simp) rfl ?_
    intro j hk0j fr_ hfr
    have hkj : j ≤ l.length := hk0j.1
    have hallj := hk0j.2
    clear hk0j
    simp only [go_sem] at hfr
    subst hfr
    by_cases hltj : j < l.length
    · have h3 : (j : Int) < (l.length : Int) := by omega
      have ew := wrap1 j l.length hltj (by omega)
      have e := getD_map Ses.row l j hltj
      have er := ses_rw l[j]
      have es := sOf_drop l c j hltj
      rw [hallj] at es
      have hk : ¬ l[j].cl = c := fun q => by rw [if_pos q] at es; cases es
      rw [if_neg hk] at es
      have h4 : (l[j].cl == c) = false := by simpa using hk
      simp only [h3, e, er, h4, ew, go_sem]
      refine t_round (j + 1) ⟨by omega, es.symm⟩ (by omega) (by simp) rfl rfl (by simp) rfl
    · have h3 : ¬ (j : Int) < (l.length : Int) := by omega
      simp only [h3, go_sem]
      simp only [aresult, ares, go_sem]
  | some s =>
    refine den_of_body k_ref37_find ⟨rfl, Nat.le_of_ble_eq_true rfl, thaw_intro ?_⟩
    unfold c_ref37_find
    simp only [go_sem]
    refine t_loop_intro (fun j : Nat => j ≤ l.length ∧ (sOf (l.drop j) c = some s)) (fun j => l.length - j) 0 [5, 6, 7, 8, 9, 10, 11, 12, 13, 14, 15, 16, 17, 18, 19, 20, 21, 22] (fun j => [(5, .a (.int .i64 j))]) ⟨by omega, by exact hr⟩ (by simp) (fun j => by simp) rfl ?_
    intro j hk0j fr_ hfr
    have hkj : j ≤ l.length := hk0j.1
    have hallj := hk0j.2
    clear hk0j
    simp only [go_sem] at hfr
    subst hfr
    by_cases hltj : j < l.length
    · have h3 : (j : Int) < (l.length : Int) := by omega
      have ew := wrap1 j l.length hltj (by omega)
      have e := getD_map Ses.row l j hltj
      have er := ses_rw l[j]
      have es := sOf_drop l c j hltj
      rw [hallj] at es
      by_cases hk : l[j].cl = c
      · rw [if_pos hk] at es
        have h4 : (l[j].cl == c) = true := by simpa using hk
        cases es
        simp only [h3, e, er, h4, go_sem]
        simp only [aresult, ares, go_sem]
      · rw [if_neg hk] at es
        have h4 : (l[j].cl == c) = false := by simpa using hk
        simp only [h3, e, er, h4, ew, go_sem]
        refine t_round (j + 1) ⟨by omega, es.symm⟩ (by omega) (by simp) rfl rfl (by simp) rfl
    · rw [List.drop_eq_nil_of_le (by omega)] at hallj
      cases hallj
/-! How many requests of a client -/
def cntR (l : List Req) (c : Int) : Nat := (l.filter fun r => r.cl == c).length
theorem cntR_take (l : List Req) (c : Int) (k : Nat) (h : k < l.length) : cntR (l.take (k + 1)) c = cntR (l.take k) c + (if l[k].cl = c then 1 else 0) := by
  unfold cntR
  rw [List.take_succ_eq_append_getElem h, List.filter_append, List.length_append]
  by_cases hc : l[k].cl = c
  · rw [if_pos hc, List.filter_cons_of_pos (by simpa using hc)]; rfl
  · rw [if_neg hc, List.filter_cons_of_neg (by simpa using hc)]; rfl
theorem cntR_le (l : List Req) (c : Int) : cntR l c ≤ l.length := List.length_filter_le _ _
theorem req_rw (r : Req) : r.row = [.int .i64 r.cl, .int .i64 r.sq, .str r.pr, .slice 3 (r.args.map Vl.row), .bool r.dc, .bool r.al, .slice 1 (r.rd.map sRow), .slice 1 (r.wt.map sRow)] := rfl
set_option maxHeartbeats 2000000 in
theorem waiting_den (l : List Req) (c : Int) (hl : l.length ≤ 9223372036854775807) : PDen Try.prog 30 [.a (.slice 8 (l.map Req.row)), .a (.int .i64 c)] (.a (.int .i64 (cntR l c : Nat))) := by
  refine den_of_body k_session_waiting ⟨rfl, Nat.le_of_ble_eq_true rfl, thaw_intro ?_⟩
  unfold c_session_waiting
  simp only [go_sem]
  refine t_loop_intro (fun k : Nat => k ≤ l.length) (fun k => l.length - k) 0 [5, 7, 10, 11, 12, 13, 14, 15, 16, 17, 18, 19, 20] (fun k => [(5, .a (.int .i64 (cntR (l.take k) c : Nat))), (10, .a (.int .i64 k))]) (by omega) (by first | (simp; done) | simp [cntR]) (fun k => by simp) rfl ?_
  intro k hk fr_ hfr
  simp only [go_sem] at hfr
  subst hfr
  by_cases hlt : k < l.length
  · have h3 : (k : Int) < (l.length : Int) := by omega
    have ew := wrap1 k l.length hlt hl
    have e := getD_map Req.row l k hlt
    have er := req_rw l[k]
    have es := cntR_take l c k hlt
    have hle := cntR_le (l.take k) c
    rw [List.length_take] at hle
    simp only [h3, e, er, go_sem]
    by_cases hc : l[k].cl = c
    · have h4 : (l[k].cl == c) = true := by simpa using hc
      rw [if_pos hc] at es
      have ew2 : IntKind.i64.wrap (((cntR (l.take k) c : Nat) : Int) + 1) = ((cntR (l.take (k + 1)) c : Nat) : Int) := by rw [es, IntKind.wrap_i64]; omega
      simp only [h4, ew2, ew, go_sem]
      refine t_round (k + 1) (by omega) (by omega) (by simp) rfl rfl (by simp) rfl
    · have h4 : (l[k].cl == c) = false := by simpa using hc
      rw [if_neg hc] at es
      simp only [h4, ew, go_sem]
      refine t_round (k + 1) (by omega) (by omega) (by first | (simp; done) | simp [es]) rfl rfl (by simp) rfl
  · have h3 : ¬ (k : Int) < (l.length : Int) := by omega
    have ek : l.take k = l := List.take_of_length_le (by omega)
    simp only [h3, ek, go_sem]
    simp only [aresult, ares, go_sem]
set_option maxHeartbeats 2000000 in
theorem rcount_den (l : List Req) (c : Int) (hl : l.length ≤ 9223372036854775807) : PDen Try.prog 39 [.a (.slice 8 (l.map Req.row)), .a (.int .i64 c)] (.a (.int .i64 (cntR l c : Nat))) := by
  refine den_of_body k_ref37_count ⟨rfl, Nat.le_of_ble_eq_true rfl, thaw_intro ?_⟩
  unfold c_ref37_count
  simp only [go_sem]
  refine t_loop_intro (fun k : Nat => k ≤ l.length) (fun k => l.length - k) 0 [5, 6, 7, 8, 9, 10, 11, 12, 13, 14, 15, 16, 17, 18, 19, 20, 21] (fun k => [(5, .a (.int .i64 (cntR (l.take k) c : Nat))), (6, .a (.int .i64 k))]) (by omega) (by first | (simp; done) | simp [cntR]) (fun k => by simp) rfl ?_
  intro k hk fr_ hfr
  simp only [go_sem] at hfr
  subst hfr
  by_cases hlt : k < l.length
  · have h3 : (k : Int) < (l.length : Int) := by omega
    have ew := wrap1 k l.length hlt hl
    have e := getD_map Req.row l k hlt
    have er := req_rw l[k]
    have es := cntR_take l c k hlt
    have hle := cntR_le (l.take k) c
    rw [List.length_take] at hle
    simp only [h3, e, er, go_sem]
    by_cases hc : l[k].cl = c
    · have h4 : (l[k].cl == c) = true := by simpa using hc
      rw [if_pos hc] at es
      have ew2 : IntKind.i64.wrap (((cntR (l.take k) c : Nat) : Int) + 1) = ((cntR (l.take (k + 1)) c : Nat) : Int) := by rw [es, IntKind.wrap_i64]; omega
      simp only [h4, ew2, ew, go_sem]
      refine t_round (k + 1) (by omega) (by omega) (by simp) rfl rfl (by simp) rfl
    · have h4 : (l[k].cl == c) = false := by simpa using hc
      rw [if_neg hc] at es
      simp only [h4, ew, go_sem]
      refine t_round (k + 1) (by omega) (by omega) (by first | (simp; done) | simp [es]) rfl rfl (by simp) rfl
  · have h3 : ¬ (k : Int) < (l.length : Int) := by omega
    have ek : l.take k = l := List.take_of_length_le (by omega)
    simp only [h3, ek, go_sem]
    simp only [aresult, ares, go_sem]
def expI (l : List Ses) (p : List Req) (c : Int) : Int := if sessV l = true then IntKind.i64.wrap (nextI l c + (cntR p c : Nat)) else 0
set_option maxHeartbeats 2000000 in
theorem exp_den (l : List Ses) (hf : SesFit l) (p : List Req) (hp : p.length ≤ 9223372036854775807) (c : Int) : PDen Try.prog 19 [.a (.slice 3 (l.map Ses.row)), .a (.slice 8 (p.map Req.row)), .a (.int .i64 c)] (.a (.int .i64 (expI l p c))) := by
  have hv := sessV_den l hf
  unfold expI
  cases h : sessV l with
  | false =>
    rw [h] at hv
    refine den_of_body k_session_Expected ⟨rfl, Nat.le_of_ble_eq_true rfl, thaw_intro ?_⟩
    unfold c_session_Expected
    simp only [go_sem]
    refine t_call_intro (hv) ?_
    simp only [go_sem]
    simp only [aresult, ares, go_sem]
  | true =>
    rw [h] at hv
    refine den_of_body k_session_Expected ⟨rfl, Nat.le_of_ble_eq_true rfl, thaw_intro ?_⟩
    unfold c_session_Expected
    simp only [go_sem]
    refine t_call_intro (hv) ?_
    simp only [go_sem]
    refine t_call_intro (next_den l c hf.len (sessV_asc h).1) ?_
    simp only [go_sem]
    refine t_call_intro (waiting_den p c hp) ?_
    simp only [go_sem]
    simp only [aresult, ares, go_sem]
set_option maxHeartbeats 2000000 in
theorem rexp_den (l : List Ses) (hf : SesFit l) (p : List Req) (hp : p.length ≤ 9223372036854775807) (c : Int) : PDen Try.prog 20 [.a (.slice 3 (l.map Ses.row)), .a (.slice 8 (p.map Req.row)), .a (.int .i64 c)] (.a (.int .i64 (expI l p c))) := by
  have hv := rsessV_den l hf
  unfold expI
  cases h : sessV l with
  | false =>
    rw [h] at hv
    refine den_of_body k_ref37_Expected ⟨rfl, Nat.le_of_ble_eq_true rfl, thaw_intro ?_⟩
    unfold c_ref37_Expected
    simp only [go_sem]
    refine t_call_intro (hv) ?_
    simp only [go_sem]
    simp only [aresult, ares, go_sem]
  | true =>
    rw [h] at hv
    have hfd := rfindC_den l c hf.len
    have en := nextI_fnd l c
    rw [ses_rw] at hfd
    refine den_of_body k_ref37_Expected ⟨rfl, Nat.le_of_ble_eq_true rfl, thaw_intro ?_⟩
    unfold c_ref37_Expected
    simp only [go_sem]
    refine t_call_intro (hv) ?_
    simp only [go_sem]
    refine t_call_intro (hfd) ?_
    simp only [go_sem]
    refine t_call_intro (rcount_den p c hp) ?_
    simp only [en, go_sem]
    simp only [aresult, ares, go_sem]
end Go.Proofs.Ytbiongfnbbnndaa
