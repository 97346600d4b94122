/- Chapter 52: the law StaleHistories, walked. -/
import Derived.Test.YtlfebjehmabejaaHx
set_option linter.unusedSimpArgs false
set_option linter.unusedVariables false
namespace Go.Proofs.Ytlfebjehmabejaa
open Go Ab
set_option maxRecDepth 100000
attribute [local irreducible] awp aops aop asoft aeff aloop acall acallI acallT
attribute [local go_sem] Vl.row Ver.row Row.row Store.row Pr.row

set_option maxHeartbeats 16000000 in
theorem StaleHistories_den (l : List Pr) (hl : PrsU l) (ch : List (List Pr)) (hch : ChsU ch) (fl : Int) (hf0 : 0 ≤ fl) (hf1 : fl ≤ 255) :
    PDen Try.prog 5 [.a (.slice 4 (l.map Pr.row)), .a (.slice 1 (ch.map stR)), .a (.int .u8 fl)] (.a (.bool true)) := by
  have hll := hl.len
  have hn := new_den l 0 (by omega) hl.all
  unfold newA at hn
  have e1 : ((0 : Int) != 0) = false := rfl
  have e10 : ((1 : Int) != 0) = true := rfl
  cases hv : stateV l with
  | false =>
    rw [if_neg (by unfold newOk; rw [hv]; simp)] at hn
    rw [store_rw] at hn
    refine den_of_body k_law52_StaleHistories ⟨rfl, Nat.le_of_ble_eq_true rfl, thaw_intro ?_⟩
    unfold c_law52_StaleHistories
    simp only [go_sem]
    refine t_call_intro (hn) ?_
    simp only [e10, go_sem]
    refine t_call_intro (examples_den) ?_
    simp only [go_sem]
    simp only [aresult, ares, go_sem]
  | true =>
    rw [if_pos (by unfold newOk; rw [hv]; rfl)] at hn
    rw [store_rw] at hn
    have hI0 := hist0_ok hv hll
    rw [← histN_zero l ch] at hI0
    have ez := histN_zero l ch
    by_cases h1 : (20 : Int) < (ch.length : Int)
    · refine den_of_body k_law52_StaleHistories ⟨rfl, Nat.le_of_ble_eq_true rfl, thaw_intro ?_⟩
      unfold c_law52_StaleHistories
      simp only [go_sem]
      refine t_call_intro (hn) ?_
      simp only [e1, h1, go_sem]
      refine t_call_intro (examples_den) ?_
      simp only [go_sem]
      simp only [aresult, ares, go_sem]
    refine den_of_body k_law52_StaleHistories ⟨rfl, Nat.le_of_ble_eq_true rfl, thaw_intro ?_⟩
    unfold c_law52_StaleHistories
    simp only [go_sem]
    refine t_call_intro (hn) ?_
    simp only [e1, h1, go_sem]
    refine t_loopO_intro [] (fun k : Nat => k ≤ ch.length ∧ (HistOk k (histN l ch k))) (fun k => ch.length - k) 0 [6, 10, 11, 12, 36, 37, 38, 39, 40, 41, 42, 43, 44, 45, 46, 47, 48, 49, 50, 51, 52, 53, 54, 55, 56, 57] (fun k => [(10, .a (.int .i64 k)), (22, .any), (24, .any)]) (fun k => [[.a (.int .i64 (histN l ch k).full.fl), .a (.int .i64 (histN l ch k).full.la), .a (.slice 2 ((histN l ch k).full.rows.map Row.row))], [.a (.int .i64 (histN l ch k).beh.fl), .a (.int .i64 (histN l ch k).beh.la), .a (.slice 2 ((histN l ch k).beh.rows.map Row.row))]]) (fun k => []) ⟨by omega, by exact hI0⟩ (by simp) (by first | (simp; done) | simp [ez]) (by first | (simp; done) | simp [ez]) (by first | (simp; done) | simp [ez]) (fun k => by first | (simp; done) | simp [ez]) (fun k => by first | (simp; done) | simp [ez]) (fun k => by first | (simp; done) | simp [ez]) ?_
    intro k hk0 st_ hst
    have hk : k ≤ ch.length := hk0.1
    have hall := hk0.2
    clear hk0
    simp only [go_sem] at hst
    subst hst
    by_cases hlt : k < ch.length
    · have g1 : (k : Int) < (ch.length : Int) := by omega
      have ew := wrap1 k ch.length hlt (by omega)
      have ew2 : IntKind.i64.wrap ((k : Int) + 1) = (k : Int) + 1 := by rw [ew]; omega
      have e := getD_map stR ch k hlt
      have er : stR ch[k] = [.slice 4 (ch[k].map Pr.row)] := rfl
      have hck := hch.all ch[k] (List.getElem_mem hlt)
      have es := histN_step l ch k hlt
      generalize histN l ch k = x at *
      have x1 := hall.la
      have x4 := hall.rows
      obtain ⟨⟨fx1, fx2⟩, fx3, fx4⟩ := hall.fits (by omega)
      have hcl := hck.len
      cases hw : writesGo none ch[k] with
      | false =>
        have hb := apply_bad x.full fx1 ((k : Int) + 1) ch[k] hcl hck.all ((storeV_iff _).2 hall.good) hw
        rw [store_rw] at hb
        simp only [g1, e, er, ew2, go_sem]
        refine t_call_intro (hb) ?_
        simp only [e10, go_sem]
        refine t_call_intro (examples_den) ?_
        simp only [go_sem]
        simp only [aresult, ares, go_sem]
      | true =>
        have hma := apply_good x.full fx1 fx2 ((k : Int) + 1) ch[k] hck.all ((storeV_iff _).2 hall.good) hw ⟨by omega, by omega⟩ (1 + 1048576 * k) hall.vers (by omega) (by omega)
        simp only [store_rw] at hma
        have hn2 := hist1_ok hall (by omega) hw hcl
        simp only [g1, e, er, ew2, go_sem]
        refine t_call_intro (hma) ?_
        simp only [e1, ew, go_sem]
        have er4 : (histN l ch (k + 1)).full = ⟨x.full.fl, (k : Int) + 1, putAll ((k : Int) + 1) x.full.la ch[k] x.full.rows⟩ := by rw [es]; rfl
        have er5 : (histN l ch (k + 1)).beh = x.full := by rw [es]; rfl
        refine t_roundO (k + 1) ⟨by omega, by rw [es]; exact hn2⟩ (by omega) (by first | (simp; done) | simp [er4, er5]) (by first | (simp; done) | simp [er4, er5]) (by first | (simp; done) | simp [er4, er5]) (by first | (simp; done) | simp [er4, er5]) (by first | (simp; done) | simp [er4, er5])
    · have gE : ¬ (k : Int) < (ch.length : Int) := by omega
      generalize histN l ch k = x at *
      have x1 := hall.la
      have x2 := hall.bla
      have x3 := hall.fl
      have x4 := hall.bfl
      have x5 := hall.bgood.b1
      have x6 := hall.rows
      obtain ⟨⟨fx1, fx2⟩, fx3, fx4⟩ := hall.fits (by omega)
      have w1 : IntKind.i64.wrap fl = fl := by rw [IntKind.wrap_i64]; omega
      have w2 : IntKind.i64.wrap (x.full.la + 1) = x.full.la + 1 := by rw [IntKind.wrap_i64]; omega
      simp only [gE, w1, w2, go_sem]
      refine t_gate_intro (by omega) ?_
      simp only [go_sem]
      have hm0 : 0 ≤ fl.tmod (x.full.la + 1) ∧ fl.tmod (x.full.la + 1) ≤ x.full.la := by
        rw [Int.tmod_eq_emod_of_nonneg hf0]
        have q1 := Int.emod_nonneg fl (show x.full.la + 1 ≠ 0 by omega)
        have q2 := Int.emod_lt_of_pos fl (show 0 < x.full.la + 1 by omega)
        omega
      generalize fl.tmod (x.full.la + 1) = r at hm0 ⊢
      have hv0 := hall.vers
      have hcut : x.full.cutable := ⟨by omega, fun r hr => by have := hv0 r hr; omega⟩
      have ht := trunc_ok hall.good fx1 hcut r hm0.2
      have tG := trunc1_good hall.good hm0.2
      have tL := trunc1_la x.full r
      have tR := trunc1_rows x.full r
      have tV := trunc1_vers x.full r _ hv0
      have tS := fun p hp => trunc1_show hall.good (floor := r) p hp
      generalize trunc1 x.full r = t at ht tG tL tR tV tS
      obtain ⟨ft1, ft2⟩ := goodS_fit tG (1048576 * (k + 1)) (1 + 1048576 * k + 1) (by omega) tV (by omega) (by omega)
      have t0 := tG.b0
      have t1 := tG.b1
      have b0 := hall.bgood.b0
      simp only [store_rw] at ht
      refine t_call_intro (ht) ?_
      simp only [e1, go_sem]
      refine t_loop_intro (fun j : Nat => j ≤ (x.beh.la - t.fl + 1).toNat) (fun j => (x.beh.la - t.fl + 1).toNat - j) 0 [6, 15, 16, 17, 18, 19, 20, 21, 73, 74, 75, 76, 77, 78, 79, 80, 81, 82, 83, 84, 85, 86, 87, 88, 89, 90, 91, 92, 93, 94, 95, 96, 97, 98, 99, 100, 101, 102, 103, 104, 105, 106, 107, 108, 109, 110, 111, 112, 113, 114, 115, 116, 117, 118, 119, 120, 121, 122, 123, 124, 125, 126, 127, 128, 129, 130, 131, 132, 133, 134] (fun j => [(15, .a (.int .i64 (t.fl + (j : Int)))), (58, .any), (66, .any)]) (by omega) (by simp) (fun j => by simp) rfl ?_
      intro j hkj fr_ hfr
      simp only [go_sem] at hfr
      subst hfr
      by_cases hltj : j < (x.beh.la - t.fl + 1).toNat
      · have gj : t.fl + (j : Int) ≤ x.beh.la := by omega
        have ewj : IntKind.i64.wrap (t.fl + (j : Int) + 1) = t.fl + ((j + 1 : Nat) : Int) := by rw [IntKind.wrap_i64]; omega
        have hE : snapZ t (t.fl + j) = snapZ x.beh (t.fl + j) := by
          unfold snapZ
          rw [tS _ (by omega), hall.shows _ gj]
        have s1 := snapZ_one tG ft1 ft2 (t.fl + j) (by omega) (by omega)
        have s2 := snapZ_one hall.bgood fx3 fx4 (t.fl + j) (by omega) (by omega)
        have s3 := snapZ_two hall.bgood fx3 fx4 ft1 ft2 (t.fl + j) (by omega) (by omega)
        have s4 := avail_both hall.bgood tG fx3 ft1 (t.fl + j) (by omega) (by omega) (by omega) (by omega)
        rw [hE] at s1
        have hzl := snapZ_len x.beh (t.fl + j)
        have xb := hall.brows
        have s5 := psame_den (snapZ x.beh (t.fl + j)) (by omega)
        simp only [store_rw] at s1 s2 s3 s4
        have n2 : (((2 : Nat) : Int) != 2) = false := rfl
        simp only [gj, go_sem]
        refine t_call_intro (s1) ?_
        simp only [go_sem]
        refine t_call_intro (s2) ?_
        simp only [go_sem]
        refine t_call_intro (s3) ?_
        simp only [e1, go_sem]
        refine t_call_intro (s5) ?_
        simp only [go_sem]
        refine t_call_intro (s5) ?_
        simp only [go_sem]
        refine t_call_intro (s4) ?_
        simp only [n2, ewj, go_sem]
        refine t_round (j + 1) (by omega) (by omega) (by simp) rfl rfl (by simp) rfl
      · have gj : ¬ t.fl + (j : Int) ≤ x.beh.la := by omega
        have s6 := avail_none fx3 ft1 (x.full.la + 1) (by omega) (by omega)
        simp only [store_rw] at s6
        have n0 : ((((0 : Nat)) : Int) == 0) = true := rfl
        simp only [gj, w2, go_sem]
        refine t_call_intro (s6) ?_
        simp only [n0, go_sem]
        refine t_call_intro (examples_den) ?_
        simp only [go_sem]
        simp only [aresult, ares, go_sem]
end Go.Proofs.Ytlfebjehmabejaa
