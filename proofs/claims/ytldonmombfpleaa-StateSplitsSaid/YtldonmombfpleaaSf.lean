/- Chapter 06: lists that are equal; the example of the chapter; the law StateLists, walked. -/
import Derived.Test.YtldonmombfpleaaSe
set_option linter.unusedSimpArgs false
set_option linter.unusedVariables false
namespace Go.Proofs.Ytldonmombfpleaa
open Go Ab
attribute [local irreducible] awp aops aop asoft aeff aloop acall acallI acallT
attribute [local go_sem] Vl.row Rg.row Pr.row

set_option maxRecDepth 100000 in
set_option maxHeartbeats 1000000 in
theorem rsame_den (l m : List Pr) (hl : l.length ≤ 9223372036854775807) :
    PDen Try.prog 13 [.a (.slice 4 (l.map Pr.row)), .a (.slice 4 (m.map Pr.row))] (.a (.bool (prsEq l m))) := by
  refine den_of_body k_ref06_Same ⟨rfl, Nat.le_of_ble_eq_true rfl, thaw_intro ?_⟩
  unfold c_ref06_Same
  simp only [go_sem]
  first | refine t_case_dec (fun h0 => ?_) (fun h0 => ?_) | refine t_case_ndec (fun h0 => ?_) (fun h0 => ?_) | refine t_case_eqI (fun h0 => ?_) (fun h0 => ?_) | refine t_case_neI (fun h0 => ?_) (fun h0 => ?_) | refine t_case_not (fun h0 => ?_) (fun h0 => ?_) | refine t_case_intro (fun h0 => ?_) (fun h0 => ?_)
  rotate_left
  · simp only [go_sem]
    simp only [aresult, ares, go_sem]
    rw [show prsEq l m = false by simp [prsEq]; omega]
  have hn : l.length = m.length := by omega
  have eS : prsEq l m = (l.zip m).all fun z => prEq z.1 z.2 := by simp [prsEq, hn]
  simp only [go_sem]
  refine t_loop_intro (fun k : Nat => k ≤ l.length ∧ ((l.zip m).all (fun z => prEq z.1 z.2) = ((l.zip m).drop k).all (fun z => prEq z.1 z.2))) (fun k => l.length - k) 0 [4, 5, 11, 12, 13, 14, 15, 16, 17, 18, 19, 20, 21, 22, 23, 24, 25] (fun k => [(5, .a (.int .i64 k))]) ⟨by omega, by rfl⟩ (by simp) (fun k => by simp) rfl ?_
  intro k hk0 fr_ hfr
  have hk : k ≤ l.length := hk0.1
  have hall := hk0.2
  clear hk0
  simp only [go_sem] at hfr
  subst hfr
  by_cases hlt : k < l.length
  · have h3 : (k : Int) < (l.length : Int) := by omega
    have hlb : k < m.length := by omega
    have h3b : (k : Int) < (m.length : Int) := by omega
    have ew := wrap1 k l.length hlt hl
    have e := getD_map Pr.row l k hlt
    have eb := getD_map Pr.row m k hlb
    have er : l[k].row = [.str l[k].key, .int .i64 l[k].v.kind, .int .i64 l[k].v.n, .str l[k].v.s] := rfl
    have erb : m[k].row = [.str m[k].key, .int .i64 m[k].v.kind, .int .i64 m[k].v.n, .str m[k].v.s] := rfl
    have ez := zip_step (fun z => prEq z.1 z.2) l m k hlt hlb
    simp only [h3, h3b, e, eb, er, erb, go_sem]
    first | refine t_case_dec (fun h7 => ?_) (fun h7 => ?_) | refine t_case_ndec (fun h7 => ?_) (fun h7 => ?_) | refine t_case_eqI (fun h7 => ?_) (fun h7 => ?_) | refine t_case_neI (fun h7 => ?_) (fun h7 => ?_) | refine t_case_not (fun h7 => ?_) (fun h7 => ?_) | refine t_case_intro (fun h7 => ?_) (fun h7 => ?_)
    · have h8 : prEq l[k] m[k] = true := by simpa [prEq, vlEq, Bool.and_assoc] using h7
      simp only [ew, go_sem]
      refine t_round (k + 1) ⟨by omega, by rw [hall, ez, h8]; rfl⟩ (by omega) (by simp) rfl rfl (by simp) rfl
    · have h8 : prEq l[k] m[k] = false := by simpa [prEq, vlEq, Bool.and_assoc] using h7
      simp only [go_sem]
      simp only [aresult, ares, go_sem]
      rw [eS, hall, ez, h8]; rfl
  · have h3 : ¬ (k : Int) < (l.length : Int) := by omega
    simp only [h3, go_sem]
    simp only [aresult, ares, go_sem]
    rw [eS, hall, zip_end _ _ _ _ (by omega)]

set_option maxRecDepth 100000 in
set_option maxHeartbeats 1000000 in
theorem eqp_den (l m : List Pr) (hl : l.length ≤ 9223372036854775807) :
    PDen Try.prog 47 [.a (.slice 4 (l.map Pr.row)), .a (.slice 4 (m.map Pr.row))] (.a (.bool (prsEq l m))) := by
  refine den_of_body k_slices_Equal_api_Pair_api_Pair ⟨rfl, Nat.le_of_ble_eq_true rfl, thaw_intro ?_⟩
  unfold c_slices_Equal_api_Pair_api_Pair
  simp only [go_sem]
  first | refine t_case_dec (fun h0 => ?_) (fun h0 => ?_) | refine t_case_ndec (fun h0 => ?_) (fun h0 => ?_) | refine t_case_eqI (fun h0 => ?_) (fun h0 => ?_) | refine t_case_neI (fun h0 => ?_) (fun h0 => ?_) | refine t_case_not (fun h0 => ?_) (fun h0 => ?_) | refine t_case_intro (fun h0 => ?_) (fun h0 => ?_)
  rotate_left
  · simp only [go_sem]
    simp only [aresult, ares, go_sem]
    rw [show prsEq l m = false by simp [prsEq]; omega]
  have hn : l.length = m.length := by omega
  have eS : prsEq l m = (l.zip m).all fun z => prEq z.1 z.2 := by simp [prsEq, hn]
  simp only [go_sem]
  refine t_loop_intro (fun k : Nat => k ≤ l.length ∧ ((l.zip m).all (fun z => prEq z.1 z.2) = ((l.zip m).drop k).all (fun z => prEq z.1 z.2))) (fun k => l.length - k) 0 [4, 5, 13, 14, 15, 16, 17, 18, 19, 20, 21, 22, 23, 24, 25] (fun k => [(13, .a (.int .i64 k))]) ⟨by omega, by rfl⟩ (by simp) (fun k => by simp) rfl ?_
  intro k hk0 fr_ hfr
  have hk : k ≤ l.length := hk0.1
  have hall := hk0.2
  clear hk0
  simp only [go_sem] at hfr
  subst hfr
  by_cases hlt : k < l.length
  · have h3 : (k : Int) < (l.length : Int) := by omega
    have hlb : k < m.length := by omega
    have h3b : (k : Int) < (m.length : Int) := by omega
    have ew := wrap1 k l.length hlt hl
    have e := getD_map Pr.row l k hlt
    have eb := getD_map Pr.row m k hlb
    have er : l[k].row = [.str l[k].key, .int .i64 l[k].v.kind, .int .i64 l[k].v.n, .str l[k].v.s] := rfl
    have erb : m[k].row = [.str m[k].key, .int .i64 m[k].v.kind, .int .i64 m[k].v.n, .str m[k].v.s] := rfl
    have ez := zip_step (fun z => prEq z.1 z.2) l m k hlt hlb
    simp only [h3, h3b, e, eb, er, erb, go_sem]
    first | refine t_case_dec (fun h7 => ?_) (fun h7 => ?_) | refine t_case_ndec (fun h7 => ?_) (fun h7 => ?_) | refine t_case_eqI (fun h7 => ?_) (fun h7 => ?_) | refine t_case_neI (fun h7 => ?_) (fun h7 => ?_) | refine t_case_not (fun h7 => ?_) (fun h7 => ?_) | refine t_case_intro (fun h7 => ?_) (fun h7 => ?_)
    · have h8 : prEq l[k] m[k] = true := by simpa [prEq, vlEq, Bool.and_assoc] using h7
      simp only [ew, go_sem]
      refine t_round (k + 1) ⟨by omega, by rw [hall, ez, h8]; rfl⟩ (by omega) (by simp) rfl rfl (by simp) rfl
    · have h8 : prEq l[k] m[k] = false := by simpa [prEq, vlEq, Bool.and_assoc] using h7
      simp only [go_sem]
      simp only [aresult, ares, go_sem]
      rw [eS, hall, ez, h8]; rfl
  · have h3 : ¬ (k : Int) < (l.length : Int) := by omega
    simp only [h3, go_sem]
    simp only [aresult, ares, go_sem]
    rw [eS, hall, zip_end _ _ _ _ (by omega)]

set_option maxRecDepth 100000 in
theorem ssame_den (l m : List Pr) (hl : l.length ≤ 9223372036854775807) : PDen Try.prog 21 [.a (.slice 4 (l.map Pr.row)), .a (.slice 4 (m.map Pr.row))] (.a (.bool (prsEq l m))) := by
  refine den_of_body k_state_Same ⟨rfl, Nat.le_of_ble_eq_true rfl, thaw_intro ?_⟩
  unfold c_state_Same
  simp only [go_sem]
  refine t_call_intro (eqp_den l m hl) ?_
  simp only [go_sem]
  simp only [aresult, ares, go_sem]
theorem prsEq_self (l : List Pr) : prsEq l l = true := (prsEq_iff l l).2 rfl
theorem encode_nil_den : PDen Try.prog 29 [.a .nils] (.a (.str ⟨#[0]⟩)) := by
  intro S w vs himm hrep
  obtain ⟨hl, hr⟩ := hrep
  match vs, hl with
  | [x], _ =>
    have hx := hr 0 _ x rfl rfl
    have ex : x = .slice none 0 0 := by cases hx with | a h => cases h; rfl
    subst ex
    refine (encode_nil_any w).mono ?_
    rintro e w' ⟨rfl, hb⟩
    exact ⟨_, S, rfl, fun _ _ h => h, fun _ _ h => .inl h, fun g o h => by
      obtain ⟨u, hu⟩ := himm g o h
      have hlt : g < w.heap.size := by
        rcases Nat.lt_or_ge g w.heap.size with h' | h'
        · exact h'
        · simp [World.cell?, Array.getElem?_eq_none h'] at hu
      exact ⟨u, (hb.cell (p := ⟨g, o, none⟩) hlt).trans hu⟩, hb, .a (.str _ (by decide))⟩

def vN (n : Int) : Vl := ⟨1, n, ⟨#[]⟩⟩
def kA : ByteArray := ⟨#[97]⟩
def kB : ByteArray := ⟨#[98]⟩
def kC : ByteArray := ⟨#[99]⟩
def exL : List Pr := [⟨kB, vN 2⟩, ⟨kC, vN 3⟩]
def exW : List Pr := [⟨kA, vN 1⟩, ⟨kB, ⟨0, 0, ⟨#[]⟩⟩⟩]
def exA : List Pr := [⟨kA, vN 1⟩, ⟨kC, vN 3⟩]
def exX : List Pr := [⟨kA, vN 1⟩]
def exY : List Pr := [⟨kA, vN 2⟩, ⟨kB, vN 3⟩]
theorem cAB : cmpK kA kB = -1 := by decide +kernel
theorem cBA : cmpK kB kA = 1 := by decide +kernel
theorem cBB : cmpK kB kB = 0 := by decide +kernel
theorem cAA : cmpK kA kA = 0 := by decide +kernel
theorem exfitP {l : List Pr} (h : (l.all fun p => decide (p.key.size ≤ 10) && decide (p.v.s.size ≤ 10)) = true) : ∀ p ∈ l, p.fit := fun p hp => by
  have := List.all_eq_true.1 h p hp
  simp only [Bool.and_eq_true, decide_eq_true_eq] at this
  exact ⟨by omega, by omega⟩
theorem ex_apply : PDen Try.prog 10 [.a (.slice 4 (exL.map Pr.row)), .a (.slice 4 (exW.map Pr.row))] (.tup [.a (.slice 4 (exA.map Pr.row)), .a (.int .i64 0)]) := by
  have h := apply_den exL exW (by decide) (by decide) (by decide) (exfitP (by decide +kernel)) (exfitP (by decide +kernel))
  have e : applyO exL exW = some exA := by
    simp [applyO, exL, exW, exA, mergeS, cBA, cBB, applyL, applyR, applyB, addW, add, outL, vN]
  rw [show applyA exL exW = .tup [.a (.slice 4 ((outL (applyO exL exW)).map Pr.row)), .a (.int .i64 0)] from if_pos (by decide +kernel), e] at h
  exact h
theorem ex_diff : PDen Try.prog 19 [.a (.slice 4 (exX.map Pr.row)), .a (.slice 4 (exY.map Pr.row))] (.tup [.a (.slice 4 (exY.map Pr.row)), .a (.int .i64 0)]) := by
  have h := diff_den exX exY (by decide) (by decide) (by decide) (exfitP (by decide +kernel)) (exfitP (by decide +kernel))
  have e : diffO exX exY = some exY := by
    simp [diffO, exX, exY, mergeS, cAA, diffL, diffR, diffB, addD, add, outL, vN, vlEq]
  rw [show diffA exX exY = .tup [.a (.slice 4 ((outL (diffO exX exY)).map Pr.row)), .a (.int .i64 0)] from if_pos (by decide +kernel), e] at h
  exact h
theorem num_den (k : ByteArray) (n : Int) : PDen Try.prog 38 [.a (.str k), .a (.int .i64 n)] (.agg [.str k, .int .i64 1, .int .i64 n, .str ⟨#[]⟩]) := by
  refine den_of_body k_law06_num ⟨rfl, Nat.le_of_ble_eq_true rfl, thaw_intro ?_⟩
  unfold c_law06_num
  simp only [go_sem]
  simp only [aresult, ares, go_sem]
set_option maxRecDepth 100000 in
set_option maxHeartbeats 2000000 in
theorem examples_den : PDen Try.prog 11 [] (.a (.bool true)) := by
  have e0 : ((0 : Int) == 0) = true := by decide
  have sA := rsame_den exA exA (by decide)
  have sY := rsame_den exY exY (by decide)
  rw [prsEq_self] at sA sY
  have eN : ((⟨#[0]⟩ : ByteArray).toList == (⟨#[0]⟩ : ByteArray).toList) = true := by decide +kernel
  refine den_of_body k_law06_examples ⟨rfl, Nat.le_of_ble_eq_true rfl, thaw_intro ?_⟩
  unfold c_law06_examples
  simp only [go_sem]
  refine t_call_intro (num_den _ _) ?_
  simp only [go_sem]
  refine t_call_intro (num_den _ _) ?_
  simp only [go_sem]
  refine t_call_intro (num_den _ _) ?_
  simp only [go_sem]
  refine t_call_intro (ex_apply) ?_
  simp only [go_sem]
  refine t_call_intro (num_den _ _) ?_
  simp only [go_sem]
  refine t_call_intro (num_den _ _) ?_
  simp only [go_sem]
  refine t_call_intro (num_den _ _) ?_
  simp only [go_sem]
  refine t_call_intro (ex_diff) ?_
  simp only [e0, go_sem]
  refine t_call_intro (num_den _ _) ?_
  simp only [go_sem]
  refine t_call_intro (num_den _ _) ?_
  simp only [go_sem]
  refine t_call_intro (sA) ?_
  simp only [go_sem]
  refine t_call_intro (num_den _ _) ?_
  simp only [go_sem]
  refine t_call_intro (num_den _ _) ?_
  simp only [go_sem]
  refine t_call_intro (sY) ?_
  simp only [go_sem]
  refine t_call_intro (encode_nil_den) ?_
  simp only [eN, go_sem]
  simp only [aresult, ares, go_sem]

set_option maxRecDepth 100000 in
set_option maxHeartbeats 2000000 in
theorem lists_den (l m : List Pr) (hl : l.length * 40 ≤ 140737488351232) (fl : ∀ p ∈ l, p.fit) (r : Rg) (hr : r.fit) : PDen Try.prog 7 [.a (.slice 4 (l.map Pr.row)), .a (.slice 4 (m.map Pr.row)), .agg r.row] (.a (.bool true)) := by
  have eV : (stateV l == stateV l) = true := by simp
  have eK : ((getP l r.f).kind == (getP l r.f).kind) = true := by simp
  have eN : ((getP l r.f).n == (getP l r.f).n) = true := by simp
  have eS : ((getP l r.f).s.toList == (getP l r.f).s.toList) = true := by simp
  have eQ : (prsEq l m == prsEq l m) = true := by simp
  have sl : sliceRows r l l.length = ((l.take l.length).filter fun p => containsV r p.key).map Pr.row := rfl
  have hlf := List.length_filter_le (fun p : Pr => containsV r p.key) (l.take l.length)
  rw [List.length_take] at hlf
  have sS := rsame_den ((l.take l.length).filter fun p => containsV r p.key) ((l.take l.length).filter fun p => containsV r p.key) (by omega)
  rw [prsEq_self] at sS
  have sL := ssame_den l l (by omega)
  rw [prsEq_self] at sL
  refine den_of_body k_law06_StateLists ⟨rfl, Nat.le_of_ble_eq_true rfl, thaw_intro ?_⟩
  unfold c_law06_StateLists
  simp only [go_sem]
  refine t_call_intro (stateV_den l hl fl) ?_
  simp only [go_sem]
  refine t_call_intro (rstateV_den l hl fl) ?_
  simp only [eV, go_sem]
  refine t_call_intro (get_den l hl r.f) ?_
  simp only [go_sem]
  refine t_call_intro (rget_den l hl r.f) ?_
  simp only [eK, eN, eS, Bool.true_and, go_sem]
  refine t_call_intro (slice_den l hl r hr) ?_
  simp only [go_sem]
  refine t_call_intro (rslice_den l hl r hr) ?_
  simp only [sl, go_sem]
  refine t_call_intro (sS) ?_
  simp only [go_sem]
  refine t_call_intro (ssame_den l m (by omega)) ?_
  simp only [go_sem]
  refine t_call_intro (rsame_den l m (by omega)) ?_
  simp only [eQ, go_sem]
  refine t_call_intro (sL) ?_
  simp only [go_sem]
  refine t_call_intro (examples_den) ?_
  simp only [go_sem]
  simp only [aresult, ares, go_sem]
end Go.Proofs.Ytldonmombfpleaa
