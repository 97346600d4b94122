/- Chapter 22: the law MvstoreForm, walked. -/
import Derived.Test.YtobgbmklepcblaaMfm
import Derived.Test.YtobgbmklepcblaaMsc
namespace Go.Proofs.Ytobgbmklepcblaa
open Go Ab
attribute [local irreducible] awp aops aop asoft aeff aloop acall acallI acallT
attribute [local go_sem] Vl.row Ver.row Row.row Store.row Rg.row Pr.row

set_option maxRecDepth 100000 in
set_option maxHeartbeats 1000000 in
theorem rsame_den (l m : List Pr) (hl : l.length ≤ 9223372036854775807) :
    PDen Try.prog 29 [.a (.slice 4 (l.map Pr.row)), .a (.slice 4 (m.map Pr.row))] (.a (.bool (prsEq l m))) := by
  refine den_of_body k_ref06_Same ⟨rfl, Nat.le_of_ble_eq_true rfl, thaw_intro ?_⟩
  unfold c_ref06_Same
  simp only [go_sem]
  first | refine t_case_dec (fun h0 => ?_) (fun h0 => ?_) | refine t_case_ndec (fun h0 => ?_) (fun h0 => ?_) | refine t_case_eqI (fun h0 => ?_) (fun h0 => ?_) | refine t_case_neI (fun h0 => ?_) (fun h0 => ?_) | refine t_case_not (fun h0 => ?_) (fun h0 => ?_) | refine t_case_intro (fun h0 => ?_) (fun h0 => ?_)
  rotate_left
  · simp only [go_sem]
    simp only [aresult, ares, go_sem]
    rw [show prsEq l m = false by simp [prsEq]; omega]
  have hn : l.length = m.length := by omega
  have eS : prsEq l m = (l.zip m).all fun z => prEq z.1 z.2 := by simp [prsEq, hn]
  simp only [go_sem]
  refine t_loop_intro (fun k : Nat => k ≤ l.length ∧ ((l.zip m).all (fun z => prEq z.1 z.2) = ((l.zip m).drop k).all (fun z => prEq z.1 z.2))) (fun k => l.length - k) 0 [4, 5, 11, 12, 13, 14, 15, 16, 17, 18, 19, 20, 21, 22, 23, 24, 25] (fun k => [(5, .a (.int .i64 k))]) ⟨by omega, by rfl⟩ (by simp) (fun k => by simp) rfl ?_
  intro k hk0 fr_ hfr
  have hk : k ≤ l.length := hk0.1
  have hall := hk0.2
  clear hk0
  simp only [go_sem] at hfr
  subst hfr
  by_cases hlt : k < l.length
  · have h3 : (k : Int) < (l.length : Int) := by omega
    have hlb : k < m.length := by omega
    have h3b : (k : Int) < (m.length : Int) := by omega
    have ew := wrap1 k l.length hlt hl
    have e := getD_map Pr.row l k hlt
    have eb := getD_map Pr.row m k hlb
    have er : l[k].row = [.str l[k].key, .int .i64 l[k].v.kind, .int .i64 l[k].v.n, .str l[k].v.s] := rfl
    have erb : m[k].row = [.str m[k].key, .int .i64 m[k].v.kind, .int .i64 m[k].v.n, .str m[k].v.s] := rfl
    have ez := zip_step (fun z => prEq z.1 z.2) l m k hlt hlb
    simp only [h3, h3b, e, eb, er, erb, go_sem]
    first | refine t_case_dec (fun h7 => ?_) (fun h7 => ?_) | refine t_case_ndec (fun h7 => ?_) (fun h7 => ?_) | refine t_case_eqI (fun h7 => ?_) (fun h7 => ?_) | refine t_case_neI (fun h7 => ?_) (fun h7 => ?_) | refine t_case_not (fun h7 => ?_) (fun h7 => ?_) | refine t_case_intro (fun h7 => ?_) (fun h7 => ?_)
    · have h8 : prEq l[k] m[k] = true := by simpa [prEq, vlEq, Bool.and_assoc] using h7
      simp only [ew, go_sem]
      refine t_round (k + 1) ⟨by omega, by rw [hall, ez, h8]; rfl⟩ (by omega) (by simp) rfl rfl (by simp) rfl
    · have h8 : prEq l[k] m[k] = false := by simpa [prEq, vlEq, Bool.and_assoc] using h7
      simp only [go_sem]
      simp only [aresult, ares, go_sem]
      rw [eS, hall, ez, h8]; rfl
  · have h3 : ¬ (k : Int) < (l.length : Int) := by omega
    simp only [h3, go_sem]
    simp only [aresult, ares, go_sem]
    rw [eS, hall, zip_end _ _ _ _ (by omega)]

theorem atE_in (s : Store) (p : Int) (h : storeV s = true) (h1 : s.fl ≤ p) (h2 : p ≤ s.la) : atE s p = 0 := by
  unfold atE posE
  rw [if_neg (by simp [h]), if_neg (by omega)]
theorem at_in (s : Store) (hs : s.fit) (hm : s.small) (p : Int) (h : storeV s = true) (h1 : s.fl ≤ p) (h2 : p ≤ s.la) :
    PDen Try.prog 27 [.agg s.row, .a (.int .i64 p)] (.tup [.a (.slice 4 ((showS s p).map Pr.row)), .a (.int .i64 0)]) := by
  have hat := at_den s hs hm.1 p
  have h0 := atE_in s p h h1 h2
  have h3 := (atE_zero h0 (fun r => vlAt r.vs p)).2
  rw [atA_eq, h3, h0] at hat
  exact hat
theorem show_len (s : Store) (hm : s.small) (p : Int) : (showS s p).length ≤ 9223372036854775807 := by
  have h3 := pairsTo_len (fun r => vlAt r.vs p) s.rows s.rows.length
  have h4 := hm.1
  unfold showS; omega
def eqN (a b : Store) (n : Nat) : Bool := (List.range n).all fun i => prsEq (showS a (a.fl + i)) (showS b (a.fl + i))
theorem eqN_step (a b : Store) (n : Nat) : eqN a b (n + 1) = (eqN a b n && prsEq (showS a (a.fl + n)) (showS b (a.fl + n))) := by
  unfold eqN
  rw [List.range_succ, List.all_append]; simp
theorem eqN_law (a b : Store) (ha : storeV a = true) (hb : storeV b = true) (h1 : a.fl = b.fl) (h2 : a.la = b.la) (n : Nat) (hn : (n : Int) = a.la - a.fl + 1) : eqN a b n = storeEq a b := by
  rw [Bool.eq_iff_iff, storeEq_iff]
  constructor
  · intro h
    refine form_law a b ha hb h1 h2 fun p h3 h4 => ?_
    simp only [eqN, List.all_eq_true, List.mem_range] at h
    have := h (p - a.fl).toNat (by omega)
    rw [prsEq_iff, show a.fl + ((p - a.fl).toNat : Int) = p by omega] at this
    exact this
  · rintro rfl
    simp only [eqN, List.all_eq_true, List.mem_range]
    exact fun i _ => (prsEq_iff _ _).2 rfl

set_option maxRecDepth 100000 in
set_option maxHeartbeats 4000000 in
theorem mvForm_den (a b : Store) (hs : a.fit) (hm : a.small) (ht : b.fit) (hkb : b.small) : PDen Try.prog 8 [.agg a.row, .agg b.row] (.a (.bool true)) := by
  refine den_of_body k_law22_MvstoreForm ⟨rfl, Nat.le_of_ble_eq_true rfl, thaw_intro ?_⟩
  unfold c_law22_MvstoreForm
  simp only [go_sem]
  refine t_call_intro (few_den a hm 12) ?_
  simp only [go_sem]
  first | refine t_case_dec (fun h0 => ?_) (fun h0 => ?_) | refine t_case_ndec (fun h0 => ?_) (fun h0 => ?_) | refine t_case_eqI (fun h0 => ?_) (fun h0 => ?_) | refine t_case_neI (fun h0 => ?_) (fun h0 => ?_) | refine t_case_not (fun h0 => ?_) (fun h0 => ?_) | refine t_case_intro (fun h0 => ?_) (fun h0 => ?_)
  rotate_left
  · simp only [go_sem]
    refine t_call_intro (lives_den) ?_
    simp only [go_sem]
    simp only [aresult, ares, go_sem]
  simp only [go_sem]
  refine t_call_intro (few_den b hkb 12) ?_
  simp only [go_sem]
  first | refine t_case_dec (fun h1 => ?_) (fun h1 => ?_) | refine t_case_ndec (fun h1 => ?_) (fun h1 => ?_) | refine t_case_eqI (fun h1 => ?_) (fun h1 => ?_) | refine t_case_neI (fun h1 => ?_) (fun h1 => ?_) | refine t_case_not (fun h1 => ?_) (fun h1 => ?_) | refine t_case_intro (fun h1 => ?_) (fun h1 => ?_)
  rotate_left
  · simp only [go_sem]
    refine t_call_intro (lives_den) ?_
    simp only [go_sem]
    simp only [aresult, ares, go_sem]
  simp only [go_sem]
  refine t_call_intro (storeV_den a hs) ?_
  simp only [go_sem]
  first | refine t_case_dec (fun h2 => ?_) (fun h2 => ?_) | refine t_case_ndec (fun h2 => ?_) (fun h2 => ?_) | refine t_case_eqI (fun h2 => ?_) (fun h2 => ?_) | refine t_case_neI (fun h2 => ?_) (fun h2 => ?_) | refine t_case_not (fun h2 => ?_) (fun h2 => ?_) | refine t_case_intro (fun h2 => ?_) (fun h2 => ?_)
  rotate_left
  · simp only [go_sem]
    refine t_call_intro (lives_den) ?_
    simp only [go_sem]
    simp only [aresult, ares, go_sem]
  simp only [go_sem]
  refine t_call_intro (storeV_den b ht) ?_
  simp only [go_sem]
  first | refine t_case_dec (fun h3 => ?_) (fun h3 => ?_) | refine t_case_ndec (fun h3 => ?_) (fun h3 => ?_) | refine t_case_eqI (fun h3 => ?_) (fun h3 => ?_) | refine t_case_neI (fun h3 => ?_) (fun h3 => ?_) | refine t_case_not (fun h3 => ?_) (fun h3 => ?_) | refine t_case_intro (fun h3 => ?_) (fun h3 => ?_)
  rotate_left
  · simp only [go_sem]
    refine t_call_intro (lives_den) ?_
    simp only [go_sem]
    simp only [aresult, ares, go_sem]
  simp only [go_sem]
  first | refine t_case_dec (fun h4 => ?_) (fun h4 => ?_) | refine t_case_ndec (fun h4 => ?_) (fun h4 => ?_) | refine t_case_eqI (fun h4 => ?_) (fun h4 => ?_) | refine t_case_neI (fun h4 => ?_) (fun h4 => ?_) | refine t_case_not (fun h4 => ?_) (fun h4 => ?_) | refine t_case_intro (fun h4 => ?_) (fun h4 => ?_)
  · simp only [go_sem]
    refine t_call_intro (lives_den) ?_
    simp only [go_sem]
    simp only [aresult, ares, go_sem]
  simp only [h4, go_sem]
  first | refine t_case_dec (fun h5 => ?_) (fun h5 => ?_) | refine t_case_ndec (fun h5 => ?_) (fun h5 => ?_) | refine t_case_eqI (fun h5 => ?_) (fun h5 => ?_) | refine t_case_neI (fun h5 => ?_) (fun h5 => ?_) | refine t_case_not (fun h5 => ?_) (fun h5 => ?_) | refine t_case_intro (fun h5 => ?_) (fun h5 => ?_)
  · simp only [go_sem]
    refine t_call_intro (lives_den) ?_
    simp only [go_sem]
    simp only [aresult, ares, go_sem]
  have hv2 := h2
  simp only [storeV, Bool.and_eq_true, decide_eq_true_eq] at hv2
  have ews : IntKind.i64.wrap (a.la - a.fl) = a.la - a.fl := by rw [IntKind.wrap_i64]; omega
  simp only [h5, ews, go_sem]
  first | refine t_case_dec (fun h6 => ?_) (fun h6 => ?_) | refine t_case_ndec (fun h6 => ?_) (fun h6 => ?_) | refine t_case_eqI (fun h6 => ?_) (fun h6 => ?_) | refine t_case_neI (fun h6 => ?_) (fun h6 => ?_) | refine t_case_not (fun h6 => ?_) (fun h6 => ?_) | refine t_case_intro (fun h6 => ?_) (fun h6 => ?_)
  · simp only [go_sem]
    refine t_call_intro (lives_den) ?_
    simp only [go_sem]
    simp only [aresult, ares, go_sem]
  have e1 : a.fl = b.fl := by simpa using h4
  have e2 : a.la = b.la := by simpa using h5
  have z0 : ((0 : Int) != 0) = false := by decide
  have hsm : a.rows.length * 40 ≤ 140737488351232 ∧ ∀ r ∈ a.rows, r.vs.length * 40 ≤ 140737488351232 := ⟨hm.1, fun r hr => (hm.2 r hr).1⟩
  obtain ⟨n, hn⟩ : ∃ n : Nat, (n : Int) = a.la - a.fl + 1 := ⟨(a.la - a.fl + 1).toNat, by omega⟩
  have elaw := eqN_law a b h2 h3 e1 e2 n hn
  simp only [go_sem]
  refine t_loop_intro (fun k : Nat => k ≤ n) (fun k => n - k) 0 [4, 5, 6, 7, 8, 9, 10, 54, 55, 56, 57, 58, 59, 60, 61, 62, 63, 64, 65, 66, 67, 68, 69, 70, 71, 72, 73, 74, 75, 76, 77, 78, 79, 80, 81, 82, 83] (fun k => [(5, .a (.bool (eqN a b k))), (6, .a (.int .i64 (a.fl + k)))]) (by omega) (by first | (simp; done) | simp [eqN]) (fun k => by simp) rfl ?_
  intro k hk fr_ hfr
  simp only [go_sem] at hfr
  subst hfr
  by_cases hlt : k < n
  · have h7 : a.fl + (k : Int) ≤ a.la := by omega
    have ew : IntKind.i64.wrap (a.fl + (k : Int) + 1) = a.fl + ((k + 1 : Nat) : Int) := by rw [IntKind.wrap_i64]; omega
    simp only [h7, go_sem]
    refine t_call_intro (at_in a hs hm (a.fl + k) h2 (by omega) h7) ?_
    simp only [go_sem]
    refine t_call_intro (at_in b ht hkb (a.fl + k) h3 (by omega) (by omega)) ?_
    simp only [z0, go_sem]
    first | refine t_case_dec (fun h8 => ?_) (fun h8 => ?_) | refine t_case_ndec (fun h8 => ?_) (fun h8 => ?_) | refine t_case_eqI (fun h8 => ?_) (fun h8 => ?_) | refine t_case_neI (fun h8 => ?_) (fun h8 => ?_) | refine t_case_not (fun h8 => ?_) (fun h8 => ?_) | refine t_case_intro (fun h8 => ?_) (fun h8 => ?_)
    · simp only [go_sem]
      refine t_call_intro (rsame_den (showS a (a.fl + k)) (showS b (a.fl + k)) (show_len a hm _)) ?_
      have es : eqN a b (k + 1) = prsEq (showS a (a.fl + k)) (showS b (a.fl + k)) := by rw [eqN_step, h8]; rfl
      simp only [ew, go_sem]
      refine t_round (k + 1) (by omega) (by omega) (by first | (simp; done) | simp [es]) rfl rfl (by simp) rfl
    · have es : eqN a b (k + 1) = false := by rw [eqN_step, h8]; rfl
      simp only [ew, go_sem]
      refine t_round (k + 1) (by omega) (by omega) (by first | (simp; done) | simp [es]) rfl rfl (by simp) rfl
  · have h7 : ¬ a.fl + (k : Int) ≤ a.la := by omega
    have hkn : k = n := by omega
    simp only [h7, go_sem]
    refine t_call_intro (ssame_den a b hsm) ?_
    rw [hkn, elaw]
    have e9 : (storeEq a b == storeEq a b) = true := by simp
    simp only [e9, go_sem]
    refine t_call_intro (lives_den) ?_
    simp only [go_sem]
    simp only [aresult, ares, go_sem]
end Go.Proofs.Ytobgbmklepcblaa
