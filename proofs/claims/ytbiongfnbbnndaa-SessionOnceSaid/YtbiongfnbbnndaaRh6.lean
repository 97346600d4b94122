/- Chapter 37: the law SessionOnce. -/
import Derived.Test.YtbiongfnbbnndaaRg6
set_option linter.unusedSimpArgs false
set_option linter.unusedVariables false
namespace Go.Proofs.Ytbiongfnbbnndaa
open Go Ab Go.RowKit
set_option maxRecDepth 100000
attribute [local irreducible] awp aops aop asoft aeff aloop acall acallI acallT
attribute [local go_sem] Vl.row sRow fpRow Req.row Rpl.row Ses.row

theorem wantI_nil {l : List Ses} (h : sessV l = true) {acc : List Req} (hn : acc.length ≤ 1172812402926) (c : Int) : wantI l [] acc c = nextI l c + (cntR acc c : Nat) := by
  have h1 := next_in h c
  have h2 := cntR_le acc c
  have h3 : cntR [] c = 0 := rfl
  unfold wantI
  rw [h3, IntKind.wrap_i64, IntKind.wrap_i64]
  omega
def AccI (l : List Ses) (a : List Req) : Prop := ∀ (i : Nat) (h : i < a.length), a[i].sq = nextI l a[i].cl + (cntR (a.take i) a[i].cl : Nat)
theorem fstep_acc {l : List Ses} (h : sessV l = true) {x : Flt} (hx : x.a.length ≤ 1172812402926) (r : Req) (hP : AccI l x.a) : AccI l (fstep l [] x r).a := by
  unfold fstep
  split
  · rename_i hw
    intro i hi
    have hi2 : i < (x.a ++ [r]).length := hi
    show (x.a ++ [r])[i].sq = nextI l (x.a ++ [r])[i].cl + (cntR ((x.a ++ [r]).take i) (x.a ++ [r])[i].cl : Nat)
    by_cases c : i < x.a.length
    · rw [List.getElem_append_left c, List.take_append_of_le_length (by omega)]
      exact hP i c
    · have e : i = x.a.length := by simp only [List.length_append, List.length_cons, List.length_nil] at hi2; omega
      subst e
      rw [List.getElem_append_right (Nat.le_refl _), List.take_left']
      · simp only [Nat.sub_self, List.getElem_cons_zero]
        rw [hw, wantI_nil h hx]
      · rfl
  · split
    · split <;> exact hP
    · split <;> exact hP
theorem filtN_acc {l : List Ses} (h : sessV l = true) {f : List Req} (hf : f.length ≤ 1172812402926) : ∀ k, k ≤ f.length → AccI l (filtN l [] f k).a
  | 0, _ => by rw [filtN_zero]; exact fun i hi => by simp at hi
  | k + 1, hk => by
    have hn := filtN_len l [] f k (by omega)
    rw [filtN_step l [] f k (by omega)]
    exact fstep_acc h (by omega) _ (filtN_acc h hf k (by omega))
/-- Requests that have been recorded are not accepted again. -/
theorem filtN_none {l : List Ses} (h : sessV l = true) {f : List Req} (hs : ∀ r ∈ f, r.sq < nextI l r.cl) : ∀ k, k ≤ f.length → (filtN l [] f k).a = []
  | 0, _ => by rw [filtN_zero]
  | k + 1, hk => by
    have ih := filtN_none h hs k (by omega)
    rw [filtN_step l [] f k (by omega)]
    have hr := hs f[k] (List.getElem_mem (by omega))
    have hw := wantI_nil h (acc := (filtN l [] f k).a) (by rw [ih]; simp) f[k].cl
    unfold fstep
    rw [if_neg (by rw [hw]; omega), if_pos hr]
    split <;> exact ih
/-! The replies -/
def cdRow (n : Int) : List Atom := [.int .u8 n]
def oc (cs : List Int) (i : Nat) : Int × Int := if i < cs.length ∧ 0 < cs.getD i 0 then (2, cs.getD i 0) else (1, 0)
def rpAt (q : Req) (o : Int × Int) : Rpl := ⟨q.cl, q.sq, o.1, o.2, []⟩
def nowN (l : List Ses) (acc : List Req) (cs : List Int) : Nat → List Ses
  | 0 => l
  | k + 1 => if h : k < acc.length then recL (nowN l acc cs k) (rpAt acc[k] (oc cs k)) else nowN l acc cs k
theorem nowN_step (l : List Ses) (acc : List Req) (cs : List Int) (k : Nat) (h : k < acc.length) : nowN l acc cs (k + 1) = recL (nowN l acc cs k) (rpAt acc[k] (oc cs k)) := dif_pos h
structure OnceI (l : List Ses) (acc : List Req) (cs : List Int) (k : Nat) : Prop where
  v : sessV (nowN l acc cs k) = true
  nx : ∀ c, nextI (nowN l acc cs k) c = nextI l c + (cntR (acc.take k) c : Nat)
  b : SesBulk (nowN l acc cs k)
theorem once_zero {l : List Ses} (h : sessV l = true) (hb : SesBulk l) (acc : List Req) (cs : List Int) : OnceI l acc cs 0 :=
  ⟨h, fun c => by show nextI l c = nextI l c + ((cntR [] c : Nat) : Int); have : cntR [] c = 0 := rfl; rw [this]; simp, hb⟩
theorem oc_ok (cs : List Int) (hc : ∀ n ∈ cs, 0 ≤ n ∧ n ≤ 255) (i : Nat) : outV (oc cs i).1 (oc cs i).2 [] = true := by
  unfold oc
  split
  · rename_i h
    have e : cs.getD i 0 = cs[i]'h.1 := by simp [List.getD_eq_getElem?_getD, h.1]
    have := hc _ (List.getElem_mem h.1)
    rw [e] at h ⊢
    show outV 2 cs[i] [] = true
    unfold outV
    rw [if_neg (by decide)]
    simp only [List.length_nil, Bool.and_eq_true, decide_eq_true_eq, beq_self_eq_true]
    exact ⟨⟨⟨trivial, this.1⟩, by omega⟩, trivial⟩
  · rfl
theorem once_in {l : List Ses} {acc : List Req} {cs : List Int} {k : Nat} (hc : ∀ n ∈ cs, 0 ≤ n ∧ n ≤ 255) (ha : AccI l acc) (h : OnceI l acc cs k) (hk : k < acc.length) (c1 : ¬ acc[k].cl < 1) (c2 : ¬ 32 < acc[k].cl) (c3 : acc[k].sq ≠ 1099511627776) :
    RecIn (nowN l acc cs k) (rpAt acc[k] (oc cs k)) :=
  ⟨h.v, c1, c2, oc_ok cs hc k, by show acc[k].sq = _; rw [ha k hk]; exact (h.nx _).symm, c3⟩
theorem once_next {l : List Ses} {acc : List Req} {cs : List Int} {k : Nat} (h : OnceI l acc cs k) (hk : k < acc.length) (hr : RecIn (nowN l acc cs k) (rpAt acc[k] (oc cs k))) : OnceI l acc cs (k + 1) := by
  have e := nowN_step l acc cs k hk
  refine ⟨by rw [e]; exact recL_valid hr, fun c => ?_, ?_⟩
  · rw [e, recL_next hr, h.nx, cntR_take acc c k hk]
    show (if c = acc[k].cl then _ else _) = _
    by_cases hc : c = acc[k].cl
    · rw [if_pos hc, if_pos hc.symm]; omega
    · rw [if_neg hc, if_neg (fun q => hc q.symm)]; simp
  · rw [e]
    have := recP_bulk h.b (r := rpAt acc[k] (oc cs k)) ⟨by simp [rpAt], fun v hv => by simp [rpAt] at hv⟩
    rcases recP_cases (nowN l acc cs k) (rpAt acc[k] (oc cs k)) with ⟨_, h2⟩ | ⟨_, h2⟩
    · rename_i h1
      unfold recP at h1
      rw [hr.v] at h1
      have h3 : recOk (rpAt acc[k] (oc cs k)) = true := by
        unfold recOk
        have g1 := hr.c1
        have g2 := hr.c2
        rw [hr.o]
        simp only [Bool.and_true, Bool.and_eq_true, decide_eq_true_eq]
        omega
      rw [h3, if_pos (by rfl), if_neg (by simp [hr.sq]), if_neg hr.q] at h1
      exact absurd rfl h1
    · rw [h2] at this; exact this
theorem cntR_lt (acc : List Req) (i : Nat) (h : i < acc.length) : cntR (acc.take i) acc[i].cl < cntR acc acc[i].cl := by
  have h1 := cntR_take acc acc[i].cl i h
  rw [if_pos rfl] at h1
  have h2 : cntR (acc.take (i + 1)) acc[i].cl ≤ cntR acc acc[i].cl := by
    unfold cntR
    exact ((List.take_sublist (i + 1) acc).filter _).length_le
  omega
theorem once_end {l : List Ses} {acc : List Req} {cs : List Int} (ha : AccI l acc) (h : OnceI l acc cs acc.length) : ∀ r ∈ acc, r.sq < nextI (nowN l acc cs acc.length) r.cl := by
  intro r hr
  obtain ⟨i, hi, rfl⟩ := List.mem_iff_getElem.1 hr
  have h1 := cntR_lt acc i hi
  rw [h.nx, ha i hi, List.take_length]
  omega
theorem rec_tup {l : List Ses} (hb : SesBulk l) {r : Rpl} (hr : VlsFit r.out) (h : RecIn l r) : PDen Try.prog 13 [.a (.slice 3 (l.map Ses.row)), .agg r.row] (.tup [.a (.slice 3 ((recL l r).map Ses.row)), .a (.int .i64 0)]) := by
  cases hf : foundC l (loC r.cl l) r.cl with
  | false => exact record_new l hb r hr h hf
  | true => exact record_old l hb r hr h hf
set_option maxHeartbeats 32000000 in
theorem SessionOnce_den (l : List Ses) (hl : Sess.full l) (f : List Req) (hf : ReqsOk f) (cs : List Int) (hcl : cs.length ≤ 9223372036854775807) (hc : ∀ n ∈ cs, 0 ≤ n ∧ n ≤ 255) :
    PDen Try.prog 3 [.a (.slice 3 (l.map Ses.row)), .a (.slice 8 (f.map Req.row)), .a (.slice 1 (cs.map cdRow))] (.a (.bool true)) := by
  have d1 := filter_den l hl.bulk [] f (by decide) hf
  have dv := sessV_den l hl.fit
  have nn : VLs [.a (.slice 3 (l.map Ses.row)), .a .nils, .a (.slice 8 (f.map Req.row))] [.a (.slice 3 (l.map Ses.row)), .a (.slice 8 (([] : List Req).map Req.row)), .a (.slice 8 (f.map Req.row))] := ⟨VLe.refl _, VLe.a (RLe.nils 8), VLe.refl _, trivial⟩
  replace d1 := d1.args nn
  clear nn
  unfold fltA at d1
  cases h : sessV l with
  | false =>
    rw [h, if_neg (by simp)] at d1
    rw [h] at dv
    have z0 : (((0 : Nat) : Int) == 0) = true := rfl
    refine den_of_body k_law37_SessionOnce ⟨rfl, Nat.le_of_ble_eq_true rfl, thaw_intro ?_⟩
    unfold c_law37_SessionOnce
    simp only [go_sem]
    refine t_call_intro (d1) ?_
    simp only [go_sem]
    refine t_call_intro (dv) ?_
    simp only [z0, go_sem]
    refine t_call_intro (examples_den) ?_
    simp only [go_sem]
    simp only [aresult, ares, go_sem]
  | true =>
    rw [h, if_pos rfl] at d1
    rw [h] at dv
    have hm := filtN_mem l [] f f.length (Nat.le_refl _)
    have hn := (filtN_len l [] f f.length (Nat.le_refl _)).1
    have ha := filtN_acc h hf.len f.length (Nat.le_refl _)
    have hfl := hf.len
    have hra : ReqsOk (filtN l [] f f.length).a := ⟨by omega, fun r hr => hf.all r (hm.a r hr)⟩
    generalize filtN l [] f f.length = x at d1 hn ha hra
    obtain ⟨acc, xb, xg⟩ := x
    simp only [] at d1 hn ha hra
    refine den_of_body k_law37_SessionOnce ⟨rfl, Nat.le_of_ble_eq_true rfl, thaw_intro ?_⟩
    unfold c_law37_SessionOnce
    simp only [go_sem]
    refine t_call_intro (d1) ?_
    simp only [go_sem]
    refine t_call_intro (dv) ?_
    simp only [go_sem]
    refine t_loop_intro (fun k : Nat => k ≤ acc.length ∧ (OnceI l acc cs k)) (fun k => acc.length - k) 0 [6, 10, 11, 12, 13, 14, 15, 16, 37, 38, 39, 40, 41, 42, 43, 44, 45, 46, 47, 48, 49, 50, 51, 52, 53, 54, 55, 56, 57, 58, 59, 60, 61, 62, 63, 64, 65, 66, 67, 68, 69, 70, 71, 72, 73, 74, 75, 76, 77, 78, 79, 80, 81, 82, 83, 84, 85, 86, 87, 88, 89, 90, 91, 92, 93, 94, 95, 96, 97, 98, 99, 100, 101, 102, 103, 104, 105, 106, 107, 108, 109, 110, 111, 112, 113, 114, 115, 116, 117] (fun k => [(10, .a (.slice 3 ((nowN l acc cs k).map Ses.row))), (11, .a (.int .i64 k))]) ⟨by omega, by exact once_zero h hl.bulk acc cs⟩ (by first | (simp; done) | simp [nowN]) (fun k => by simp) rfl ?_
    intro k hk0 fr_ hfr
    have hk : k ≤ acc.length := hk0.1
    have hall := hk0.2
    clear hk0
    simp only [go_sem] at hfr
    subst hfr
    by_cases hlt : k < acc.length
    · have i1 : (k : Int) < (acc.length : Int) := by omega
      have ewi := wrap1 k acc.length hlt (by omega)
      have e := getD_map Req.row acc k hlt
      have er := req_rw acc[k]
      have hin := once_in hc ha hall hlt
      have hnx := once_next hall hlt
      have hnw := nowN_step l acc cs k hlt
      have n0 : ((0 : Int) != 0) = false := rfl
      simp only [i1, e, er, go_sem]
      refine t_call_intro (commit_den) ?_
      simp only [go_sem]
      by_cases a1 : k < cs.length
      · have a2 : (k : Int) < (cs.length : Int) := by omega
        have ce := getD_map cdRow cs k a1
        have ce2 : cdRow cs[k] = [.int .u8 cs[k]] := rfl
        have cg : cs.getD k 0 = cs[k] := by simp [List.getD_eq_getElem?_getD, a1]
        have cb := hc _ (List.getElem_mem a1)
        have cw : IntKind.i64.wrap cs[k] = cs[k] := by rw [IntKind.wrap_i64]; omega
        by_cases a3 : 0 < cs[k]
        · have ho : oc cs k = (2, cs[k]) := by unfold oc; rw [cg, if_pos ⟨a1, a3⟩]
          simp only [a2, ce, ce2, a3, cw, go_sem]
          by_cases b1 : acc[k].cl < 1
          · simp only [b1, go_sem]
            refine t_call_intro (examples_den) ?_
            simp only [go_sem]
            simp only [aresult, ares, go_sem]
          by_cases b2 : 32 < acc[k].cl
          · simp only [b1, b2, go_sem]
            refine t_call_intro (examples_den) ?_
            simp only [go_sem]
            simp only [aresult, ares, go_sem]
          by_cases b3 : acc[k].sq = 1099511627776
          · have b4 : (acc[k].sq == 1099511627776) = true := by simpa using b3
            simp only [b1, b2, b4, go_sem]
            refine t_call_intro (examples_den) ?_
            simp only [go_sem]
            simp only [aresult, ares, go_sem]
          have b4 : (acc[k].sq == 1099511627776) = false := by simpa using b3
          have hi := hin b1 b2 b3
          have hN := hnx hi
          have hvf : VlsFit (rpAt acc[k] (oc cs k)).out := ⟨by simp [rpAt], fun v hv => by simp [rpAt] at hv⟩
          have k1 := rec_tup hall.b hvf hi
          have k2 := sessV_den _ hN.b.fit
          rw [hN.v] at k2
          have k3 := lookup_den _ hN.b acc[k].cl acc[k].sq
          have k4 := recL_look hi
          rw [← hnw] at k1 k4
          have k5 := reply_refl (rpAt acc[k] (oc cs k)) hvf.len
          rw [ho] at k1 k4 k5
          have k4 : lookP (nowN l acc cs (k + 1)) acc[k].cl acc[k].sq = (rpAt acc[k] (2, cs[k]), 0) := k4
          rw [k4] at k3
          have rw_ : (rpAt acc[k] (2, cs[k])).row = [.int .i64 acc[k].cl, .int .i64 acc[k].sq, .int .i64 2, .int .i64 cs[k], .slice 3 []] := rfl
          rw [rw_] at k1 k3 k5
          have vv : VLe (.agg [.int .i64 acc[k].cl, .int .i64 acc[k].sq, .int .i64 2, .int .i64 cs[k], .nils]) (.agg [.int .i64 acc[k].cl, .int .i64 acc[k].sq, .int .i64 2, .int .i64 cs[k], .slice 3 []]) := VLe.agg ⟨RLe.refl _, RLe.refl _, RLe.refl _, RLe.refl _, RLe.nils 3, trivial⟩
          have k1 : PDen Try.prog 13 [.a (.slice 3 ((nowN l acc cs k).map Ses.row)), .agg [.int .i64 acc[k].cl, .int .i64 acc[k].sq, .int .i64 2, .int .i64 cs[k], .nils]] (.tup [.a (.slice 3 ((nowN l acc cs (k + 1)).map Ses.row)), .a (.int .i64 0)]) := k1.args ⟨VLe.refl _, vv, trivial⟩
          have k5 : PDen Try.prog 15 [.agg [.int .i64 acc[k].cl, .int .i64 acc[k].sq, .int .i64 2, .int .i64 cs[k], .slice 3 []], .agg [.int .i64 acc[k].cl, .int .i64 acc[k].sq, .int .i64 2, .int .i64 cs[k], .nils]] (.a (.bool true)) := k5.args ⟨VLe.refl _, vv, trivial⟩
          simp only [b1, b2, b4, go_sem]
          refine t_call_intro (k1) ?_
          simp only [n0, go_sem]
          refine t_call_intro (k2) ?_
          simp only [go_sem]
          refine t_call_intro (k3) ?_
          simp only [n0, go_sem]
          refine t_call_intro (k5) ?_
          simp only [ewi, go_sem]
          refine t_round (k + 1) ⟨by omega, hN⟩ (by omega) (by simp) rfl rfl (by simp) rfl
        · have ho : oc cs k = (1, 0) := by unfold oc; rw [cg, if_neg (fun q => a3 q.2)]
          simp only [a2, ce, ce2, a3, go_sem]
          by_cases b1 : acc[k].cl < 1
          · simp only [b1, go_sem]
            refine t_call_intro (examples_den) ?_
            simp only [go_sem]
            simp only [aresult, ares, go_sem]
          by_cases b2 : 32 < acc[k].cl
          · simp only [b1, b2, go_sem]
            refine t_call_intro (examples_den) ?_
            simp only [go_sem]
            simp only [aresult, ares, go_sem]
          by_cases b3 : acc[k].sq = 1099511627776
          · have b4 : (acc[k].sq == 1099511627776) = true := by simpa using b3
            simp only [b1, b2, b4, go_sem]
            refine t_call_intro (examples_den) ?_
            simp only [go_sem]
            simp only [aresult, ares, go_sem]
          have b4 : (acc[k].sq == 1099511627776) = false := by simpa using b3
          have hi := hin b1 b2 b3
          have hN := hnx hi
          have hvf : VlsFit (rpAt acc[k] (oc cs k)).out := ⟨by simp [rpAt], fun v hv => by simp [rpAt] at hv⟩
          have k1 := rec_tup hall.b hvf hi
          have k2 := sessV_den _ hN.b.fit
          rw [hN.v] at k2
          have k3 := lookup_den _ hN.b acc[k].cl acc[k].sq
          have k4 := recL_look hi
          rw [← hnw] at k1 k4
          have k5 := reply_refl (rpAt acc[k] (oc cs k)) hvf.len
          rw [ho] at k1 k4 k5
          have k4 : lookP (nowN l acc cs (k + 1)) acc[k].cl acc[k].sq = (rpAt acc[k] (1, 0), 0) := k4
          rw [k4] at k3
          have rw_ : (rpAt acc[k] (1, 0)).row = [.int .i64 acc[k].cl, .int .i64 acc[k].sq, .int .i64 1, .int .i64 0, .slice 3 []] := rfl
          rw [rw_] at k1 k3 k5
          have vv : VLe (.agg [.int .i64 acc[k].cl, .int .i64 acc[k].sq, .int .i64 1, .int .i64 0, .nils]) (.agg [.int .i64 acc[k].cl, .int .i64 acc[k].sq, .int .i64 1, .int .i64 0, .slice 3 []]) := VLe.agg ⟨RLe.refl _, RLe.refl _, RLe.refl _, RLe.refl _, RLe.nils 3, trivial⟩
          have k1 : PDen Try.prog 13 [.a (.slice 3 ((nowN l acc cs k).map Ses.row)), .agg [.int .i64 acc[k].cl, .int .i64 acc[k].sq, .int .i64 1, .int .i64 0, .nils]] (.tup [.a (.slice 3 ((nowN l acc cs (k + 1)).map Ses.row)), .a (.int .i64 0)]) := k1.args ⟨VLe.refl _, vv, trivial⟩
          have k5 : PDen Try.prog 15 [.agg [.int .i64 acc[k].cl, .int .i64 acc[k].sq, .int .i64 1, .int .i64 0, .slice 3 []], .agg [.int .i64 acc[k].cl, .int .i64 acc[k].sq, .int .i64 1, .int .i64 0, .nils]] (.a (.bool true)) := k5.args ⟨VLe.refl _, vv, trivial⟩
          simp only [b1, b2, b4, go_sem]
          refine t_call_intro (k1) ?_
          simp only [n0, go_sem]
          refine t_call_intro (k2) ?_
          simp only [go_sem]
          refine t_call_intro (k3) ?_
          simp only [n0, go_sem]
          refine t_call_intro (k5) ?_
          simp only [ewi, go_sem]
          refine t_round (k + 1) ⟨by omega, hN⟩ (by omega) (by simp) rfl rfl (by simp) rfl
      · have a2 : ¬ (k : Int) < (cs.length : Int) := by omega
        have ho : oc cs k = (1, 0) := by unfold oc; rw [if_neg (fun q => a1 q.1)]
        simp only [a2, go_sem]
        by_cases b1 : acc[k].cl < 1
        · simp only [b1, go_sem]
          refine t_call_intro (examples_den) ?_
          simp only [go_sem]
          simp only [aresult, ares, go_sem]
        by_cases b2 : 32 < acc[k].cl
        · simp only [b1, b2, go_sem]
          refine t_call_intro (examples_den) ?_
          simp only [go_sem]
          simp only [aresult, ares, go_sem]
        by_cases b3 : acc[k].sq = 1099511627776
        · have b4 : (acc[k].sq == 1099511627776) = true := by simpa using b3
          simp only [b1, b2, b4, go_sem]
          refine t_call_intro (examples_den) ?_
          simp only [go_sem]
          simp only [aresult, ares, go_sem]
        have b4 : (acc[k].sq == 1099511627776) = false := by simpa using b3
        have hi := hin b1 b2 b3
        have hN := hnx hi
        have hvf : VlsFit (rpAt acc[k] (oc cs k)).out := ⟨by simp [rpAt], fun v hv => by simp [rpAt] at hv⟩
        have k1 := rec_tup hall.b hvf hi
        have k2 := sessV_den _ hN.b.fit
        rw [hN.v] at k2
        have k3 := lookup_den _ hN.b acc[k].cl acc[k].sq
        have k4 := recL_look hi
        rw [← hnw] at k1 k4
        have k5 := reply_refl (rpAt acc[k] (oc cs k)) hvf.len
        rw [ho] at k1 k4 k5
        have k4 : lookP (nowN l acc cs (k + 1)) acc[k].cl acc[k].sq = (rpAt acc[k] (1, 0), 0) := k4
        rw [k4] at k3
        have rw_ : (rpAt acc[k] (1, 0)).row = [.int .i64 acc[k].cl, .int .i64 acc[k].sq, .int .i64 1, .int .i64 0, .slice 3 []] := rfl
        rw [rw_] at k1 k3 k5
        have vv : VLe (.agg [.int .i64 acc[k].cl, .int .i64 acc[k].sq, .int .i64 1, .int .i64 0, .nils]) (.agg [.int .i64 acc[k].cl, .int .i64 acc[k].sq, .int .i64 1, .int .i64 0, .slice 3 []]) := VLe.agg ⟨RLe.refl _, RLe.refl _, RLe.refl _, RLe.refl _, RLe.nils 3, trivial⟩
        have k1 : PDen Try.prog 13 [.a (.slice 3 ((nowN l acc cs k).map Ses.row)), .agg [.int .i64 acc[k].cl, .int .i64 acc[k].sq, .int .i64 1, .int .i64 0, .nils]] (.tup [.a (.slice 3 ((nowN l acc cs (k + 1)).map Ses.row)), .a (.int .i64 0)]) := k1.args ⟨VLe.refl _, vv, trivial⟩
        have k5 : PDen Try.prog 15 [.agg [.int .i64 acc[k].cl, .int .i64 acc[k].sq, .int .i64 1, .int .i64 0, .slice 3 []], .agg [.int .i64 acc[k].cl, .int .i64 acc[k].sq, .int .i64 1, .int .i64 0, .nils]] (.a (.bool true)) := k5.args ⟨VLe.refl _, vv, trivial⟩
        simp only [b1, b2, b4, go_sem]
        refine t_call_intro (k1) ?_
        simp only [n0, go_sem]
        refine t_call_intro (k2) ?_
        simp only [go_sem]
        refine t_call_intro (k3) ?_
        simp only [n0, go_sem]
        refine t_call_intro (k5) ?_
        simp only [ewi, go_sem]
        refine t_round (k + 1) ⟨by omega, hN⟩ (by omega) (by simp) rfl rfl (by simp) rfl
    · have i1 : ¬ (k : Int) < (acc.length : Int) := by omega
      obtain rfl : k = acc.length := by omega
      have hz := filtN_none hall.v (once_end ha hall) acc.length (Nat.le_refl _)
      have d2 := filter_den _ hall.b [] acc (by decide) hra
      have nn : VLs [.a (.slice 3 ((nowN l acc cs acc.length).map Ses.row)), .a .nils, .a (.slice 8 (acc.map Req.row))] [.a (.slice 3 ((nowN l acc cs acc.length).map Ses.row)), .a (.slice 8 (([] : List Req).map Req.row)), .a (.slice 8 (acc.map Req.row))] := ⟨VLe.refl _, VLe.a (RLe.nils 8), VLe.refl _, trivial⟩
      replace d2 := d2.args nn
      clear nn
      unfold fltA at d2
      rw [if_pos hall.v, hz] at d2
      have z0 : (((0 : Nat) : Int) == 0) = true := rfl
      simp only [i1, go_sem]
      refine t_call_intro (d2) ?_
      simp only [z0, go_sem]
      refine t_call_intro (examples_den) ?_
      simp only [go_sem]
      simp only [aresult, ares, go_sem]
/-! Arguments -/
theorem un_u8 {n : Nat} {xs : List Atom} (h : Has Try.prog (n + 1) 5 xs) : ∃ m, xs = [.int .u8 m] ∧ (Lit.int IntKind.u8 m).wf = true := by
  unfold Has at h; rw [Try.underlying5] at h; exact h
theorem cells_u8 : Try.prog.cellsOf 5 = 1 := by kernel_rfl
theorem un_codes {n : Nat} {x : Atom} (h : Has Try.prog (n + 2) 24 [x]) : ∃ cs : List Int, x = .slice 1 (cs.map cdRow) ∧ cs.length ≤ 9223372036854775807 ∧ ∀ n ∈ cs, 0 ≤ n ∧ n ≤ 255 := by
  unfold Has at h; rw [Try.underlying24] at h
  obtain ⟨rows, he, hn, hb, hr⟩ := h
  obtain ⟨l, rfl, hl⟩ := un_rows (f := cdRow) (Q := fun m => (Lit.int IntKind.u8 m).wf = true) fun r hrr => un_u8 (hr r hrr)
  rw [List.length_map] at hn
  cases he
  refine ⟨l, by rw [cells_u8], by omega, fun m hm => ?_⟩
  have h := hl m hm
  simp only [Lit.wf, Bool.and_eq_true, decide_eq_true_eq] at h
  have ma : IntKind.max .u8 = 255 := by decide
  have mi : IntKind.min .u8 = 0 := by decide
  rw [ma, mi] at h
  exact h
theorem un_reqs1 {n : Nat} {x : Atom} (h : Has Try.prog (n + 5) 23 [x]) : ∃ l : List Req, x = .slice 8 (l.map Req.row) ∧ ReqsOk l := by
  obtain ⟨l, he, hl⟩ := un_reqs h
  cases he
  exact ⟨l, rfl, hl⟩
end Go.Proofs.Ytbiongfnbbnndaa
