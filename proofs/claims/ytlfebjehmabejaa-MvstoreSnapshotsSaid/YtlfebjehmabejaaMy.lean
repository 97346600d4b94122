/- Chapter 22: the law MvstoreSnapshots, walked. -/
import Derived.Test.YtlfebjehmabejaaMx
import Derived.Test.YtlfebjehmabejaaMsn
set_option linter.unusedSimpArgs false
set_option linter.unusedVariables false
namespace Go.Proofs.Ytlfebjehmabejaa
open Go Ab
set_option maxRecDepth 100000
attribute [local irreducible] awp aops aop asoft aeff aloop acall acallI acallT
attribute [local go_sem] Vl.row Ver.row Row.row Store.row Pr.row

set_option maxHeartbeats 1000000 in
theorem psame_den (l : List Pr) (hl : l.length ≤ 9223372036854775807) :
    PDen Try.prog 17 [.a (.slice 4 (l.map Pr.row)), .a (.slice 4 (l.map Pr.row))] (.a (.bool true)) := by
  have n3 : (((l.length : Nat) : Int) != ((l.length : Nat) : Int)) = false := by simp
  refine den_of_body k_ref06_Same ⟨rfl, Nat.le_of_ble_eq_true rfl, thaw_intro ?_⟩
  unfold c_ref06_Same
  simp only [n3, go_sem]
  refine t_loop_intro (fun k : Nat => k ≤ l.length) (fun k => l.length - k) 0 [4, 5, 11, 12, 13, 14, 15, 16, 17, 18, 19, 20, 21, 22, 23, 24, 25] (fun k => [(5, .a (.int .i64 k))]) (by omega) (by simp) (fun k => by simp) rfl ?_
  intro k hk fr_ hfr
  simp only [go_sem] at hfr
  subst hfr
  by_cases hlt : k < l.length
  · have h3 : (k : Int) < (l.length : Int) := by omega
    have ew := wrap1 k l.length hlt hl
    have e := getD_map Pr.row l k hlt
    have er : l[k].row = [.str l[k].key, .int .i64 l[k].v.kind, .int .i64 l[k].v.n, .str l[k].v.s] := rfl
    have n1 : (l[k].key.toList == l[k].key.toList) = true := by simp
    have n2 : (l[k].v.kind == l[k].v.kind) = true := by simp
    have n4 : (l[k].v.n == l[k].v.n) = true := by simp
    have n5 : (l[k].v.s.toList == l[k].v.s.toList) = true := by simp
    simp only [h3, e, er, n1, n2, n4, n5, Bool.true_and, Bool.and_true, Bool.not_true, ew, go_sem]
    refine t_round (k + 1) (by omega) (by omega) (by simp) rfl rfl (by simp) rfl
  · have h3 : ¬ (k : Int) < (l.length : Int) := by omega
    simp only [h3, go_sem]
    simp only [aresult, ares, go_sem]
theorem at_in {s : Store} (h : GoodS s) (hs : s.fit) (hm : s.small) (p : Int) (h1 : s.fl ≤ p) (h2 : p ≤ s.la) :
    PDen Try.prog 16 [.agg s.row, .a (.int .i64 p)] (.tup [.a (.slice 4 ((showS s p).map Pr.row)), .a (.int .i64 0)]) := by
  have hat := at_den s hs hm.1 p
  have h0 : posE s p = 0 := if_neg (by omega)
  unfold atA at hat
  rw [if_neg (by rw [(storeV_iff s).2 h]; simp), if_neg (by rw [h0]; simp)] at hat
  exact hat
theorem at_out {s : Store} (h : GoodS s) (hs : s.fit) (hm : s.small) (p : Int) (h1 : p < s.fl) :
    PDen Try.prog 16 [.agg s.row, .a (.int .i64 p)] (.tup [.a .nils, .a (.int .i64 15)]) := by
  have hat := at_den s hs hm.1 p
  have h0 : posE s p = 15 := if_pos (.inl h1)
  unfold atA at hat
  rw [if_neg (by rw [(storeV_iff s).2 h]; simp), if_pos (by rw [h0]; decide)] at hat
  exact hat
theorem trunc_ok {t : Store} (h : GoodS t) (hs : t.fit) (hc : t.cutable) (floor : Int) (hf : floor ≤ t.la) :
    PDen Try.prog 15 [.agg t.row, .a (.int .i64 floor)] (.tup [.agg (trunc1 t floor).row, .a (.int .i64 0)]) := by
  have ht := trunc_den t hs hc floor
  unfold truncA at ht
  rw [if_pos ((storeV_iff t).2 h), if_neg (by omega)] at ht
  unfold trunc1
  split
  · rename_i h1
    rw [if_pos h1] at ht; exact ht
  · rename_i h1
    rw [if_neg h1] at ht; exact ht
def stR (m : List Pr) : List Atom := [.slice 4 (m.map Pr.row)]
def snapN (gap behind : Int) (l : List Pr) (at_ : Int) (steps : List (List Pr)) (k : Nat) : Snap := (steps.take k).foldl (snap1 gap behind) ⟨newS l at_, [l]⟩
theorem snapN_zero (gap behind : Int) (l : List Pr) (at_ : Int) (steps : List (List Pr)) : snapN gap behind l at_ steps 0 = ⟨newS l at_, [l]⟩ := by simp [snapN]
theorem snapN_step (gap behind : Int) (l : List Pr) (at_ : Int) (steps : List (List Pr)) (k : Nat) (h : k < steps.length) : snapN gap behind l at_ steps (k + 1) = snap1 gap behind (snapN gap behind l at_ steps k) steps[k] := by
  unfold snapN
  rw [List.take_succ_eq_append_getElem h, List.foldl_append]; rfl
theorem fewP_le {l : List Pr} {n : Int} (h : fewP l n = true) : (l.length : Int) ≤ n := by
  unfold fewP at h
  rw [Bool.and_eq_true] at h
  exact of_decide_eq_true h.1
structure StepsFit (steps : List (List Pr)) : Prop where
  len : steps.length ≤ 9223372036854775807
  all : ∀ m ∈ steps, m.length * 40 ≤ 140737488351232 ∧ ∀ p ∈ m, p.fit
theorem store_rw (s : Store) : s.row = [.int .i64 s.fl, .int .i64 s.la, .slice 2 (s.rows.map Row.row)] := rfl
set_option maxHeartbeats 16000000 in
theorem mvSnapshots_den (l : List Pr) (hl : l.length * 40 ≤ 140737488351232) (hf : ∀ p ∈ l, p.fit) (at_ : Int) (steps : List (List Pr)) (hst : StepsFit steps) (gap behind : Int) (hb63 : behind ≤ 9223372036854775807) :
    PDen Try.prog 4 [.a (.slice 4 (l.map Pr.row)), .a (.int .i64 at_), .a (.slice 1 (steps.map stR)), .a (.int .i64 gap), .a (.int .i64 behind)] (.a (.bool true)) := by
  have d0 := fewP_den l hl 12
  refine den_of_body k_law22_MvstoreSnapshots ⟨rfl, Nat.le_of_ble_eq_true rfl, thaw_intro ?_⟩
  unfold c_law22_MvstoreSnapshots
  simp only [go_sem]
  refine t_call_intro (d0) ?_
  cases h0 : fewP l 12 with
  | false =>
    simp only [go_sem]
    refine t_call_intro (lives_den) ?_
    simp only [go_sem]
    simp only [aresult, ares, go_sem]
  | true =>
    by_cases h1 : (8 : Int) < (steps.length : Int)
    · simp only [h1, go_sem]
      refine t_call_intro (lives_den) ?_
      simp only [go_sem]
      simp only [aresult, ares, go_sem]
    by_cases h2 : at_ < 0
    · simp only [h1, h2, go_sem]
      refine t_call_intro (lives_den) ?_
      simp only [go_sem]
      simp only [aresult, ares, go_sem]
    by_cases h3 : 549755813888 < at_
    · simp only [h1, h2, h3, go_sem]
      refine t_call_intro (lives_den) ?_
      simp only [go_sem]
      simp only [aresult, ares, go_sem]
    by_cases h4 : gap < 0
    · simp only [h1, h2, h3, h4, go_sem]
      refine t_call_intro (lives_den) ?_
      simp only [go_sem]
      simp only [aresult, ares, go_sem]
    by_cases h5 : 2 < gap
    · simp only [h1, h2, h3, h4, h5, go_sem]
      refine t_call_intro (lives_den) ?_
      simp only [go_sem]
      simp only [aresult, ares, go_sem]
    by_cases h6 : behind < 0
    · simp only [h1, h2, h3, h4, h5, h6, go_sem]
      refine t_call_intro (lives_den) ?_
      simp only [go_sem]
      simp only [aresult, ares, go_sem]
    have hn := new_den l at_ hl hf
    unfold newA at hn
    cases hv : stateV l with
    | false =>
      rw [if_neg (by unfold newOk; rw [hv]; simp)] at hn
      rw [store_rw] at hn
      have e1 : ((1 : Int) != 0) = true := rfl
      have e2 : ((1 : Int) == 1) = true := rfl
      simp only [h1, h2, h3, h4, h5, h6, go_sem]
      refine t_call_intro (hn) ?_
      simp only [e1, e2, go_sem]
      refine t_call_intro (lives_den) ?_
      simp only [go_sem]
      simp only [aresult, ares, go_sem]
    | true =>
      rw [if_pos (by unfold newOk; rw [hv, decide_eq_true (show (0 : Int) ≤ at_ by omega), decide_eq_true (show at_ ≤ 1099511627776 by omega)]; rfl)] at hn
      rw [store_rw] at hn
      have hl12 := fewP_le h0
      have hI0 := snap0_ok (gap := gap) (behind := behind) (at_ := at_) hv (by omega) (by omega) (by omega) (by omega : l.length ≤ 12)
      have ez := snapN_zero gap behind l at_ steps
      rw [← ez] at hI0
      have e1 : ((0 : Int) != 0) = false := rfl
      have elr : stR l = [.slice 4 (l.map Pr.row)] := rfl
      simp only [h1, h2, h3, h4, h5, h6, go_sem]
      refine t_call_intro (hn) ?_
      simp only [e1, go_sem]
      refine t_gate_intro (by simp) ?_
      simp only [go_sem]
      refine t_loopO_intro [] (fun k : Nat => k ≤ steps.length ∧ (SnapOk at_ gap behind k (snapN gap behind l at_ steps k))) (fun k => steps.length - k) 0 [10, 13, 14, 15, 16, 17, 18, 19, 20, 69, 70, 71, 72, 73, 74, 75, 76, 77, 78, 79, 80, 81, 82, 83, 84, 85, 86, 87, 88, 89, 90, 91, 92, 93, 94, 95, 96, 97, 98, 99, 100, 101, 102, 103, 104, 105, 106, 107, 108, 109, 110, 111, 112, 113, 114, 115, 116, 117, 118, 119, 120, 121, 122, 123, 124, 125, 126, 127, 128, 129, 130, 131, 132, 133, 134, 135, 136, 137, 138, 139, 140, 141, 142, 143, 144, 145, 146, 147, 148, 149] (fun k => [(13, .own 0), (14, .a (.int .i64 k)), (54, .any), (57, .any), (68, .any)]) (fun k => [[.a (.int .i64 (snapN gap behind l at_ steps k).s.fl), .a (.int .i64 (snapN gap behind l at_ steps k).s.la), .a (.slice 2 ((snapN gap behind l at_ steps k).s.rows.map Row.row))]]) (fun k => [⟨25, 1, (snapN gap behind l at_ steps k).ss.map stR, true⟩]) ⟨by omega, by exact hI0⟩ (by simp) (by first | (simp; done) | simp [ez, stR]) (by first | (simp; done) | simp [ez, stR]) (by first | (simp; done) | simp [ez, stR]) (fun k => by first | (simp; done) | simp [ez, stR]) (fun k => by first | (simp; done) | simp [ez, stR]) (fun k => by first | (simp; done) | simp [ez, stR]) ?_
      intro k hk0 st_ hst
      have hk : k ≤ steps.length := hk0.1
      have hall := hk0.2
      clear hk0
      simp only [go_sem] at hst
      subst hst
      by_cases hlt : k < steps.length
      · have g1 : (k : Int) < (steps.length : Int) := by omega
        have ew := wrap1 k steps.length hlt hst.len
        have e := getD_map stR steps k hlt
        have er : stR steps[k] = [.slice 4 (steps[k].map Pr.row)] := rfl
        have hstk := hst.all steps[k] (List.getElem_mem hlt)
        have es := snapN_step gap behind l at_ steps k hlt
        have d8 := fewP_den steps[k] hstk.1 8
        generalize snapN gap behind l at_ steps k = x at *
        have x1 := hall.la
        have x2 := hall.ne
        have x3 := hall.le
        have x4 := hall.rows
        have w1 : IntKind.i64.wrap (((x.ss.length : Nat) : Int) - 1) = ((x.ss.length - 1 : Nat) : Int) := by rw [IntKind.wrap_i64]; omega
        have g2 : ((x.ss.length - 1 : Nat) : Int) < (x.ss.length : Int) := by omega
        have el0 := getD_map stR x.ss (x.ss.length - 1) (by omega)
        rw [← lastP_get x.ss x2] at el0
        have el : stR (lastP x.ss) = [.slice 4 ((lastP x.ss).map Pr.row)] := rfl
        have hlm := hall.sts (lastP x.ss) (by rw [lastP_get x.ss x2]; exact List.getElem_mem _)
        simp only [g1, e, er, go_sem]
        refine t_call_intro (d8) ?_
        cases h8 : fewP steps[k] 8 with
        | false =>
          simp only [go_sem]
          refine t_call_intro (lives_den) ?_
          simp only [go_sem]
          simp only [aresult, ares, go_sem]
        | true =>
          have hw8 := fewP_le h8
          simp only [w1, g2, el0, el, go_sem]
          refine t_gate_intro (by omega) ?_
          have fl1 := state_fit hlm.1
          cases hw : writesGo none steps[k] with
          | false =>
            have hno := apply_no (lastP x.ss) steps[k] (by omega) (by omega) fl1 hstk.2 (by rw [hw]; simp)
            have e10 : ((1 : Int) != 0) = true := rfl
            simp only [g1, e, er, go_sem]
            refine t_call_intro (hno) ?_
            simp only [e10, go_sem]
            refine t_call_intro (lives_den) ?_
            simp only [go_sem]
            simp only [aresult, ares, go_sem]
          | true =>
            have hso := apply_ok (lastP x.ss) steps[k] (by omega) (by omega) fl1 hstk.2 hlm.1 hw
            have hsn := snap1_ok hall (by omega) (by omega) (by omega) (by omega) (by omega) (by omega) hw (by omega)
            obtain ⟨fx1, fx2⟩ := goodS_fit hall.good (12 + 8 * k) (1 + 9 * k) hall.rows hall.vers (by omega) (by omega)
            have hma := apply_good x.s fx1 fx2 (x.s.la + 1 + gap) steps[k] hstk.2 ((storeV_iff _).2 hall.good) hw ⟨by omega, by omega⟩ (1 + 9 * k) hall.vers (by omega) (by omega)
            simp only [store_rw] at hma
            have hG := hsn.1
            have p2 := putAll_len (x.s.la + 1 + gap) x.s.la steps[k] x.s.rows
            have p3 := putAll_vers (at_ := x.s.la + 1 + gap) (last := x.s.la) (ws := steps[k]) hall.vers
            obtain ⟨fy1, fy2⟩ := goodS_fit hG (20 + 8 * k) (9 + 9 * k) (by show (putAll (x.s.la + 1 + gap) x.s.la steps[k] x.s.rows).length ≤ _; omega) (fun r hr => by have := p3 r hr; omega) (by omega) (by omega)
            have hcy : (apply1 x.s (x.s.la + 1 + gap) steps[k]).cutable := ⟨by show (putAll (x.s.la + 1 + gap) x.s.la steps[k] x.s.rows).length * 40 ≤ _; omega, fun r hr => by have := p3 r hr; omega⟩
            have hvy := storeV_den (apply1 x.s (x.s.la + 1 + gap) steps[k]) fy1
            rw [(storeV_iff _).2 hG] at hvy
            have hty := trunc_ok hG fy1 hcy (x.s.la + 1 + gap - behind) (by show _ ≤ x.s.la + 1 + gap; omega)
            obtain ⟨fz1, fz2⟩ := goodS_fit hsn.2.good (12 + 8 * (k + 1)) (1 + 9 * (k + 1)) hsn.2.rows hsn.2.vers (by omega) (by omega)
            have hvz := storeV_den (snap1 gap behind x steps[k]).s fz1
            rw [(storeV_iff _).2 hsn.2.good] at hvz
            simp only [store_rw, apply1] at hvy hty
            simp only [store_rw, snap1, apply1] at hvz
            have w4 : IntKind.i64.wrap (x.s.la + 1 + gap - behind) = x.s.la + 1 + gap - behind := by rw [IntKind.wrap_i64]; omega
            have w2 : IntKind.i64.wrap (x.s.la + 1) = x.s.la + 1 := by rw [IntKind.wrap_i64]; omega
            have w3 : IntKind.i64.wrap (x.s.la + 1 + gap) = x.s.la + 1 + gap := by rw [IntKind.wrap_i64]; omega
            simp only [g1, e, er, go_sem]
            refine t_call_intro (hso) ?_
            simp only [e1, w2, w3, g1, e, er, go_sem]
            refine t_call_intro (hma) ?_
            simp only [e1, go_sem]
            refine t_call_intro (hvy) ?_
            simp only [go_sem]
            refine t_loopO_intro [] (fun j : Nat => j ≤ gap.toNat) (fun j => gap.toNat - j) 0 [13, 20, 121, 122, 123, 124, 125, 126, 127, 128, 129] (fun j => [(13, .own 0), (20, .a (.int .i64 j)), (82, .any), (83, .any), (86, .any), (88, .any), (94, .any), (100, .any), (111, .any)]) (fun j => [[.a (.int .i64 x.s.fl), .a (.int .i64 x.s.la), .a (.slice 2 (x.s.rows.map Row.row))], [.a (.int .i64 x.s.fl), .a (.int .i64 (x.s.la + 1 + gap)), .a (.slice 2 ((putAll (x.s.la + 1 + gap) x.s.la steps[k] x.s.rows).map Row.row))]]) (fun j => [⟨25, 1, (x.ss ++ List.replicate j (lastP x.ss)).map stR, true⟩]) (by omega) (by simp) (by simp) (by simp) (by simp) (fun j => by simp) (fun j => by simp) (fun j => by simp) ?_
            intro j hkj st_ hst
            simp only [go_sem] at hst
            subst hst
            by_cases hltj : j < gap.toNat
            · have gj : (j : Int) < gap := by omega
              have ewj := wrap1 j gap.toNat hltj (by omega)
              have er2 : (x.ss ++ List.replicate (j + 1) (lastP x.ss)).map stR = (x.ss ++ List.replicate j (lastP x.ss)).map stR ++ [[.slice 4 ((lastP x.ss).map Pr.row)]] := by
                rw [List.replicate_succ']; simp [stR]
              simp only [gj, go_sem]
              refine t_gate_intro (by omega) ?_
              simp only [ewj, go_sem]
              refine t_roundO (j + 1) (by omega) (by omega) (by first | (simp; done) | simp [er2, stR]) (by first | (simp; done) | simp [er2, stR]) (by first | (simp; done) | simp [er2, stR]) (by first | (simp; done) | simp [er2, stR]) (by first | (simp; done) | simp [er2, stR])
            · have gj : ¬ (j : Int) < gap := by omega
              have ej : j = gap.toNat := by omega
              subst ej
              simp only [gj, go_sem]
              refine t_gate_intro (by omega) ?_
              simp only [w4, go_sem]
              refine t_call_intro (hty) ?_
              simp only [e1, go_sem]
              refine t_call_intro (hvz) ?_
              simp only [ew, go_sem]
              have er3 : (snapN gap behind l at_ steps (k + 1)).ss.map stR = (x.ss ++ List.replicate gap.toNat (lastP x.ss)).map stR ++ [[.slice 4 ((apL (lastP x.ss) steps[k]).map Pr.row)]] := by
                rw [es]; simp [stR, snap1]
              have er4 : (snapN gap behind l at_ steps (k + 1)).s = trunc1 ⟨x.s.fl, x.s.la + 1 + gap, putAll (x.s.la + 1 + gap) x.s.la steps[k] x.s.rows⟩ (x.s.la + 1 + gap - behind) := by rw [es]; rfl
              refine t_roundO (k + 1) ⟨by omega, by rw [es]; exact hsn.2⟩ (by omega) (by first | (simp; done) | simp [er3, er4, stR]) (by first | (simp; done) | simp [er3, er4, stR]) (by first | (simp; done) | simp [er3, er4, stR]) (by first | (simp; done) | simp [er3, er4, stR]) (by first | (simp; done) | simp [er3, er4, stR])
      · have gE : ¬ (k : Int) < (steps.length : Int) := by omega
        generalize snapN gap behind l at_ steps k = x at *
        have x1 := hall.la
        have x2 := hall.ne
        have x3 := hall.le
        have x5 := hall.flA
        have x6 := hall.flB
        have x7 := hall.flC
        have x8 := hall.good.b1
        have w1 : IntKind.i64.wrap (x.s.la - behind) = x.s.la - behind := by rw [IntKind.wrap_i64]; omega
        have w2 : IntKind.i64.wrap (at_ + ((x.ss.length : Nat) : Int)) = at_ + ((x.ss.length : Nat) : Int) := by rw [IntKind.wrap_i64]; omega
        have w3 : IntKind.i64.wrap (at_ + ((x.ss.length : Nat) : Int) - 1) = at_ + ((x.ss.length : Nat) : Int) - 1 := by rw [IntKind.wrap_i64]; omega
        have n1 : (x.s.la != at_ + ((x.ss.length : Nat) : Int) - 1) = false := by rw [x1]; simp
        obtain ⟨fx1, fx2⟩ := goodS_fit hall.good (12 + 8 * k) (1 + 9 * k) hall.rows hall.vers (by omega) (by omega)
        have nM : (x.s.fl != if x.s.la - behind > at_ then x.s.la - behind else at_) = false := by
          have : x.s.fl = if x.s.la - behind > at_ then x.s.la - behind else at_ := by split <;> omega
          rw [← this]; simp
        simp only [gE, w1, nM, w2, w3, n1, go_sem]
        refine t_loop_intro (fun j : Nat => j ≤ x.ss.length) (fun j => x.ss.length - j) 0 [10, 21, 22, 23, 24, 174, 175, 176, 177, 178, 179, 180, 181, 182, 183, 184, 185, 186, 187, 188, 189, 190, 191, 192, 193, 194, 195, 196, 197, 198, 199, 200, 201, 202, 203, 204, 205, 206, 207, 208, 209, 210] (fun j => [(21, .a (.int .i64 j))]) (by omega) (by simp) (fun j => by simp) rfl ?_
        intro j hkj fr_ hfr
        simp only [go_sem] at hfr
        subst hfr
        by_cases hltj : j < x.ss.length
        · have gj : (j : Int) < (x.ss.length : Int) := by omega
          have ewj := wrap1 j x.ss.length hltj (by omega)
          have wp : IntKind.i64.wrap (at_ + (j : Int)) = at_ + (j : Int) := by rw [IntKind.wrap_i64]; omega
          have ej := getD_map stR x.ss j hltj
          have ejr : stR x.ss[j] = [.slice 4 (x.ss[j].map Pr.row)] := rfl
          by_cases hp : at_ + (j : Int) < x.s.fl
          · have ha := at_out hall.good fx1 fx2 (at_ + j) hp
            rw [store_rw] at ha
            have f1 : ((15 : Int) != 15) = false := rfl
            have f0 : ¬ (((0 : Nat) : Int) > 0) := by decide
            simp only [gj, wp, go_sem]
            refine t_call_intro (ha) ?_
            simp only [hp, f1, f0, ewj, go_sem]
            refine t_round (j + 1) (by omega) (by omega) (by simp) rfl rfl (by simp) rfl
          · have ha := at_in hall.good fx1 fx2 (at_ + j) (by omega) (by omega)
            rw [store_rw, hall.shows j hltj (by omega)] at ha
            have hsj := hall.sts x.ss[j] (List.getElem_mem hltj)
            have hs := psame_den x.ss[j] (by omega)
            simp only [gj, wp, go_sem]
            refine t_call_intro (ha) ?_
            simp only [hp, e1, gj, ej, ejr, go_sem]
            refine t_gate_intro (by omega) ?_
            simp only [ej, ejr, go_sem]
            refine t_call_intro (hs) ?_
            simp only [ewj, go_sem]
            refine t_round (j + 1) (by omega) (by omega) (by simp) rfl rfl (by simp) rfl
        · have gj : ¬ (j : Int) < (x.ss.length : Int) := by omega
          simp only [gj, go_sem]
          refine t_call_intro (lives_den) ?_
          simp only [go_sem]
          simp only [aresult, ares, go_sem]
end Go.Proofs.Ytlfebjehmabejaa
