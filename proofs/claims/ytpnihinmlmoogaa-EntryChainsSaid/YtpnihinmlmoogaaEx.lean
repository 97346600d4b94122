/- Entries: what is valid. -/
import Derived.Test.YtpnihinmlmoogaaBx
import Derived.Test.YtpnihinmlmoogaaCodb
set_option linter.unusedSimpArgs false
set_option linter.unusedVariables false

namespace Go.Proofs.Ytpnihinmlmoogaa
open Go Ab Go.RowKit
attribute [local irreducible] awp aops aop asoft aeff aloop acall acallI acallT
attribute [local go_sem] Vl.row sRow

structure Mk where
  k : Int
  p : Int
  w : Int
  d : Int
  n : Int
  y : ByteArray
def Mk.row (m : Mk) : List Atom := [.int .i64 m.k, .int .i64 m.p, .int .i64 m.w, .int .i64 m.d, .int .i64 m.n, .str m.y]
structure En where
  kd : Int
  ba : List Req
  m : Mk
  sr : ByteArray
  n : Int
def En.row (e : En) : List Atom := [.int .i64 e.kd, .slice 8 (e.ba.map Req.row), .int .i64 e.m.k, .int .i64 e.m.p, .int .i64 e.m.w, .int .i64 e.m.d, .int .i64 e.m.n, .str e.m.y, .str e.sr, .int .i64 e.n]
/-- What can be in memory. -/
structure En.fit (e : En) : Prop where
  ba : e.ba.length * 120 ≤ 140737488351232
  all : ∀ r ∈ e.ba, r.fit
  y : e.m.y.size ≤ 9223372036854775807
  sr : e.sr.size ≤ 9223372036854775807
  ns : (-Cw.M63 ≤ e.m.k ∧ e.m.k < Cw.M63) ∧ (-Cw.M63 ≤ e.n ∧ e.n < Cw.M63)
def cntB (n : Int) : Bool := decide (0 ≤ n) && decide (n ≤ 1099511627776)
def mkV (m : Mk) : Bool := decide (1 ≤ m.k) && decide (m.k ≤ 4) && cntB m.p && cntB m.w && cntB m.d && cntB m.n && boundV m.y
def mZ (m : Mk) : Bool := (m.k == 0) && ((m.p == 0) && ((m.w == 0) && ((m.d == 0) && ((m.n == 0) && ((m.y.toList == []) && true)))))
def lZ (l : List Req) : Bool := ((l.length : Int) == 0)
def sZ (s : ByteArray) : Bool := s.toList == []
def unB (e : En) : Bool :=
  if e.kd = 2 then mZ e.m && sZ e.sr && (e.n == 0) else if e.kd = 3 then lZ e.ba && sZ e.sr && (e.n == 0)
  else if e.kd = 4 then lZ e.ba && mZ e.m && (e.n == 0) else if e.kd = 5 then lZ e.ba && mZ e.m && sZ e.sr
  else if e.kd = 1 then lZ e.ba && mZ e.m && sZ e.sr && (e.n == 0) else false
def firstE : List Req → Int
  | [] => 0
  | r :: l => if reqE r ≠ 0 then reqE r else firstE l
theorem firstE_step (l : List Req) (k : Nat) (h : k < l.length) : firstE (l.drop k) = if reqE l[k] ≠ 0 then reqE l[k] else firstE (l.drop (k + 1)) := by
  rw [List.drop_eq_getElem_cons h]; rfl
def enE (e : En) : Int :=
  if unB e = false then 1
  else if e.kd = 2 then (if 32 < e.ba.length then 2 else firstE e.ba)
  else if e.kd = 3 then (if mkV e.m = true then 0 else 1)
  else if e.kd = 4 then (if sZ e.sr = true then 1 else if 16384 < e.sr.size then 2 else 0)
  else if e.kd = 5 then (if cntB e.n = true then 0 else 1) else 0

set_option maxRecDepth 100000 in
theorem inCount_den (n : Int) : PDen Try.prog 37 [.a (.int .i64 n)] (.a (.bool (cntB n))) := by
  unfold cntB
  by_cases h : 0 ≤ n
  · refine den_of_body k_entry_inCount ⟨rfl, Nat.le_of_ble_eq_true rfl, thaw_intro ?_⟩
    unfold c_entry_inCount
    simp only [h, go_sem]
    simp only [aresult, ares, go_sem]
    simp [h]
  · refine den_of_body k_entry_inCount ⟨rfl, Nat.le_of_ble_eq_true rfl, thaw_intro ?_⟩
    unfold c_entry_inCount
    simp only [h, go_sem]
    simp only [aresult, ares, go_sem]
    simp [h]

set_option maxRecDepth 100000 in
theorem rcount_den (n : Int) : PDen Try.prog 40 [.a (.int .i64 n)] (.a (.bool (cntB n))) := by
  unfold cntB
  by_cases h : 0 ≤ n
  · refine den_of_body k_ref39_count ⟨rfl, Nat.le_of_ble_eq_true rfl, thaw_intro ?_⟩
    unfold c_ref39_count
    simp only [h, go_sem]
    simp only [aresult, ares, go_sem]
    simp [h]
  · refine den_of_body k_ref39_count ⟨rfl, Nat.le_of_ble_eq_true rfl, thaw_intro ?_⟩
    unfold c_ref39_count
    simp only [h, go_sem]
    simp only [aresult, ares, go_sem]
    simp [h]

set_option maxRecDepth 100000 in
set_option maxHeartbeats 1000000 in
theorem rbound29_den (s : ByteArray) (hs : s.size ≤ 9223372036854775807) : PDen Try.prog 66 [.a (.str s)] (.a (.bool (boundV s))) := by
  have hsz := dsize s
  by_cases h24 : (24 : Int) < (s.size : Int)
  · have hz : boundV s = false := by unfold boundV bytesOk; rw [Bool.and_eq_false_iff]; left; simp; omega
    rw [hz]
    refine den_of_body k_ref29_Bound ⟨rfl, Nat.le_of_ble_eq_true rfl, thaw_intro ?_⟩
    unfold c_ref29_Bound
    simp only [h24, go_sem]
    simp only [aresult, ares, go_sem]
  refine den_of_body k_ref29_Bound ⟨rfl, Nat.le_of_ble_eq_true rfl, thaw_intro ?_⟩
  unfold c_ref29_Bound
  simp only [h24, go_sem]
  refine t_loop_intro (fun k : Nat => k ≤ s.size ∧ ((s.data.toList.take k).all boundB = true)) (fun k => s.size - k) 0 [2, 3, 7, 8, 9, 10, 11, 12, 13, 14, 15, 16, 17, 18, 19, 20, 21, 22] (fun k => [(3, .a (.int .i64 k))]) ⟨by omega, by simp⟩ (by simp) (fun k => by simp) rfl ?_
  intro k hk0 fr_ hfr
  have hk : k ≤ s.size := hk0.1
  have hall := hk0.2
  clear hk0
  simp only [go_sem] at hfr
  subst hfr
  by_cases hlt : k < s.size
  · have h1 : (k : Int) < (s.size : Int) := by omega
    have ew := wrap1 k s.size hlt hs
    have hlt' : k < s.data.toList.length := by omega
    have e := getD_get s.data.toList 0 k hlt'
    have es := all_step boundB s.data.toList k hlt'
    have ef : boundB s.data.toList[k] = false → boundV s = false := fun hx => by
      unfold boundV bytesOk; rw [all_no _ _ _ hlt' hx]; simp
    simp only [h1, e, go_sem]
    generalize s.data.toList[k] = c at *
    repeat' ((first | refine t_case_dec (fun hc => ?_) (fun hc => ?_) | refine t_case_ndec (fun hc => ?_) (fun hc => ?_) | refine t_case_eqI (fun hc => ?_) (fun hc => ?_) | refine t_case_neI (fun hc => ?_) (fun hc => ?_) | refine t_case_not (fun hc => ?_) (fun hc => ?_) | refine t_case_intro (fun hc => ?_) (fun hc => ?_)) <;> try simp only [h1, e, ew, go_sem])
    all_goals first
      | (have hx : boundB c = false := by (simp [boundB]; omega)
         simp only [aresult, ares, go_sem]; rw [ef hx])
      | (have hx : boundB c = true := by (simp [boundB]; omega)
         refine t_round (k + 1) ⟨by omega, by rw [es, hall, hx]; rfl⟩ (by omega) (by simp) rfl rfl (by simp) rfl
        )
  · have h1 : ¬ (k : Int) < (s.size : Int) := by omega
    rw [List.take_of_length_le (by omega)] at hall
    have hz : boundV s = true := by unfold boundV bytesOk; rw [hall]; simp; omega
    rw [hz]
    simp only [h1, go_sem]
    simp only [aresult, ares, go_sem]

set_option maxRecDepth 100000 in
set_option maxHeartbeats 4000000 in
theorem rmarker_den (m : Mk) (hs : m.y.size ≤ 9223372036854775807) : PDen Try.prog 39 [.agg m.row] (.a (.bool (mkV m))) := by
  obtain ⟨k, p, w, d, n, y⟩ := m
  have c1 := rcount_den p
  have c2 := rcount_den w
  have c3 := rcount_den d
  have c4 := rcount_den n
  have c5 := rbound29_den y hs
  unfold mkV Mk.row
  simp only []
  by_cases q1 : 1 ≤ k
  rotate_left
  · refine den_of_body k_ref39_validMarker ⟨rfl, Nat.le_of_ble_eq_true rfl, thaw_intro ?_⟩
    unfold c_ref39_validMarker
    simp only [q1, go_sem]
    simp only [aresult, ares, go_sem]
    simp [q1]
  by_cases q2 : k ≤ 4
  rotate_left
  · refine den_of_body k_ref39_validMarker ⟨rfl, Nat.le_of_ble_eq_true rfl, thaw_intro ?_⟩
    unfold c_ref39_validMarker
    simp only [q1, q2, go_sem]
    simp only [aresult, ares, go_sem]
    simp [q2]
  refine den_of_body k_ref39_validMarker ⟨rfl, Nat.le_of_ble_eq_true rfl, thaw_intro ?_⟩
  unfold c_ref39_validMarker
  simp only [q1, q2, go_sem]
  refine t_call_intro (c1) ?_
  cases cntB p
  · simp only [go_sem]
    simp only [aresult, ares, go_sem]
    simp
  simp only [go_sem]
  refine t_call_intro (c2) ?_
  cases cntB w
  · simp only [go_sem]
    simp only [aresult, ares, go_sem]
    simp
  simp only [go_sem]
  refine t_call_intro (c3) ?_
  cases cntB d
  · simp only [go_sem]
    simp only [aresult, ares, go_sem]
    simp
  simp only [go_sem]
  refine t_call_intro (c4) ?_
  cases cntB n
  · simp only [go_sem]
    simp only [aresult, ares, go_sem]
    simp
  simp only [go_sem]
  refine t_call_intro (c5) ?_
  simp only [go_sem]
  simp only [aresult, ares, go_sem]
  simp [q1, q2]
theorem e00 : (⟨#[]⟩ : ByteArray).toList = [] := by rw [ByteArray.toList_eq]
theorem c4 : ((4 : Nat) : Int) = 4 := rfl

set_option maxRecDepth 100000 in
set_option maxHeartbeats 4000000 in
theorem marker_den (m : Mk) (hs : m.y.size ≤ 9223372036854775807) : PDen Try.prog 36 [.agg m.row] (.a (.bool (mkV m))) := by
  obtain ⟨kk, p, w, d, n, s⟩ := m
  simp only at hs
  have hsz := dsize s
  have hc : ∀ x : Int, PDen Try.prog 37 [.a (.int .i64 x)] (.a (.bool (cntB x))) := inCount_den
  unfold Mk.row
  simp only []
  refine den_of_body k_entry_validMarker ⟨rfl, Nat.le_of_ble_eq_true rfl, thaw_intro ?_⟩
  unfold c_entry_validMarker
  simp only [go_sem]
  refine t_loop_intro (fun k : Nat => k ≤ 4 ∧ (([p, w, d, n].take k).all cntB = true)) (fun k => 4 - k) 0 [2, 4, 16, 17, 18, 19, 20, 21, 22, 23] (fun k => [(16, .a (.int .i64 k))]) ⟨by omega, by simp⟩ (by simp) (fun k => by simp) rfl ?_
  intro k hk0 fr_ hfr
  have hk : k ≤ 4 := hk0.1
  have hall := hk0.2
  clear hk0
  simp only [go_sem] at hfr
  subst hfr
  by_cases hlt : k < 4
  · have ew := wrap1 k 4 hlt (by omega)
    have h1 : (k : Int) < 4 := by omega
    have hlt' : k < [p, w, d, n].length := hlt
    have e := getD_map (fun x => [Atom.int .i64 x]) [p, w, d, n] k hlt'
    simp only [List.map_cons, List.map_nil] at e
    have es := all_step cntB [p, w, d, n] k hlt'
    have ef : cntB [p, w, d, n][k] = false → mkV ⟨kk, p, w, d, n, s⟩ = false := fun hx => by
      have := all_no cntB _ _ hlt' hx
      simp only [List.all_cons, List.all_nil, Bool.and_true] at this
      unfold mkV
      simp only []
      generalize cntB p = b1 at *
      generalize cntB w = b2 at *
      generalize cntB d = b3 at *
      generalize cntB n = b4 at *
      revert this
      cases b1 <;> cases b2 <;> cases b3 <;> cases b4 <;> simp
    generalize hx0 : [p, w, d, n][k] = x at *
    simp only [c4, h1, e, List.length_cons, List.length_nil, go_sem]
    refine t_call_intro (hc x) ?_
    cases hx : cntB x
    · simp only [go_sem]
      simp only [aresult, ares, go_sem]
      rw [← ef hx]
    · simp only [ew, go_sem]
      refine t_round (k + 1) ⟨by omega, by rw [es, hall, hx]; rfl⟩ (by omega) (by simp) rfl rfl (by simp) rfl
  · have hke : k = 4 := by omega
    subst hke
    have h1 : ¬ (4 : Int) < 4 := by omega
    simp only [List.take_succ_cons, List.take_zero, List.all_cons, List.all_nil, Bool.and_true, Bool.and_eq_true] at hall
    have hm : mkV ⟨kk, p, w, d, n, s⟩ = (decide (1 ≤ kk) && decide (kk ≤ 4) && boundV s) := by
      unfold mkV; simp only []; rw [hall.1, hall.2.1, hall.2.2.1, hall.2.2.2]; simp
    rw [hm]
    simp only [c4, h1, go_sem]
    refine t_loop_intro (fun k : Nat => k ≤ s.size ∧ ((s.data.toList.take k).all boundB = true)) (fun k => s.size - k) 0 [2, 5, 24, 25, 26, 27, 28, 29, 30, 31, 32, 33, 34, 35, 36, 37, 38, 39, 40, 41, 42] (fun k => [(5, .a (.int .i64 k))]) ⟨by omega, by simp⟩ (by simp) (fun k => by simp) rfl ?_
    intro k hk0 fr_ hfr
    have hk : k ≤ s.size := hk0.1
    have hall := hk0.2
    clear hk0
    simp only [go_sem] at hfr
    subst hfr
    by_cases hlt : k < s.size
    · have h1 : (k : Int) < (s.size : Int) := by omega
      have ew := wrap1 k s.size hlt hs
      have hlt' : k < s.data.toList.length := by omega
      have e := getD_get s.data.toList 0 k hlt'
      have es := all_step boundB s.data.toList k hlt'
      have ef : boundB s.data.toList[k] = false → boundV s = false := fun hx => by
        unfold boundV bytesOk; rw [all_no _ _ _ hlt' hx]; simp
      simp only [h1, e, go_sem]
      generalize s.data.toList[k] = c at *
      repeat' ((first | refine t_case_dec (fun hc => ?_) (fun hc => ?_) | refine t_case_ndec (fun hc => ?_) (fun hc => ?_) | refine t_case_eqI (fun hc => ?_) (fun hc => ?_) | refine t_case_neI (fun hc => ?_) (fun hc => ?_) | refine t_case_not (fun hc => ?_) (fun hc => ?_) | refine t_case_intro (fun hc => ?_) (fun hc => ?_)) <;> try simp only [h1, e, ew, go_sem])
      all_goals first
        | (have hx : boundB c = false := by (simp [boundB]; omega)
           simp only [aresult, ares, go_sem]; rw [ef hx, Bool.and_false])
        | (have hx : boundB c = true := by (simp [boundB]; omega)
           refine t_round (k + 1) ⟨by omega, by rw [es, hall, hx]; rfl⟩ (by omega) (by simp) rfl rfl (by simp) rfl
          )
    · have h1 : ¬ (k : Int) < (s.size : Int) := by omega
      rw [List.take_of_length_le (by omega)] at hall
      have hz : boundV s = decide ((s.size : Int) ≤ 24) := by unfold boundV bytesOk; rw [hall, Bool.and_true]; exact decide_eq_decide.2 (by omega)
      rw [hz]
      simp only [h1, go_sem]
      by_cases q1 : 1 ≤ kk
      rotate_left
      · simp only [q1, go_sem]
        simp only [aresult, ares, go_sem]
        simp [q1]
      by_cases q2 : kk ≤ 4
      rotate_left
      · simp only [q1, q2, go_sem]
        simp only [aresult, ares, go_sem]
        simp [q2]
      simp only [q1, q2, go_sem]
      simp only [aresult, ares, go_sem]
      simp [q1, q2]

theorem q11 : ((1 : Int) == 1) = true := rfl
theorem q12 : ((1 : Int) == 2) = false := rfl
theorem q13 : ((1 : Int) == 3) = false := rfl
theorem q14 : ((1 : Int) == 4) = false := rfl
theorem q15 : ((1 : Int) == 5) = false := rfl
theorem q21 : ((2 : Int) == 1) = false := rfl
theorem q22 : ((2 : Int) == 2) = true := rfl
theorem q23 : ((2 : Int) == 3) = false := rfl
theorem q24 : ((2 : Int) == 4) = false := rfl
theorem q25 : ((2 : Int) == 5) = false := rfl
theorem q31 : ((3 : Int) == 1) = false := rfl
theorem q32 : ((3 : Int) == 2) = false := rfl
theorem q33 : ((3 : Int) == 3) = true := rfl
theorem q34 : ((3 : Int) == 4) = false := rfl
theorem q35 : ((3 : Int) == 5) = false := rfl
theorem q41 : ((4 : Int) == 1) = false := rfl
theorem q42 : ((4 : Int) == 2) = false := rfl
theorem q43 : ((4 : Int) == 3) = false := rfl
theorem q44 : ((4 : Int) == 4) = true := rfl
theorem q45 : ((4 : Int) == 5) = false := rfl
theorem q51 : ((5 : Int) == 1) = false := rfl
theorem q52 : ((5 : Int) == 2) = false := rfl
theorem q53 : ((5 : Int) == 3) = false := rfl
theorem q54 : ((5 : Int) == 4) = false := rfl
theorem q55 : ((5 : Int) == 5) = true := rfl
set_option maxRecDepth 100000 in
set_option maxHeartbeats 4000000 in
theorem unused_den (e : En) : PDen Try.prog 34 [.agg e.row] (.a (.bool (unB e))) := by
  obtain ⟨kd, ba, ⟨mk, mp, mw, md, mn, my⟩, sr, n⟩ := e
  unfold En.row
  simp only []
  have fZ : ((mk == 0) && ((mp == 0) && ((mw == 0) && ((md == 0) && ((mn == 0) && ((my.toList == []) && true)))))) = mZ ⟨mk, mp, mw, md, mn, my⟩ := rfl
  have fs : (sr.toList == []) = sZ sr := rfl
  have fl : ((ba.length : Int) == 0) = lZ ba := rfl
  by_cases k2 : kd = 2
  · subst k2
    have hu : unB ⟨2, ba, ⟨mk, mp, mw, md, mn, my⟩, sr, n⟩ = (mZ ⟨mk, mp, mw, md, mn, my⟩ && sZ sr && (n == 0)) := by unfold unB; simp
    rw [hu]
    refine den_of_body k_entry_unused ⟨rfl, Nat.le_of_ble_eq_true rfl, thaw_intro ?_⟩
    unfold c_entry_unused
    simp only [q11, q12, q13, q14, q15, q21, q22, q23, q24, q25, q31, q32, q33, q34, q35, q41, q42, q43, q44, q45, q51, q52, q53, q54, q55, e00, fZ, fs, fl, go_sem]
    generalize mZ ⟨mk, mp, mw, md, mn, my⟩ = z1
    generalize sZ sr = z2
    generalize lZ ba = z3
    generalize (n == 0) = z4
    cases z1 <;> cases z2 <;> cases z3 <;> cases z4 <;> simp only [go_sem] <;> simp only [aresult, ares, go_sem] <;> rfl
  by_cases k3 : kd = 3
  · subst k3
    have hu : unB ⟨3, ba, ⟨mk, mp, mw, md, mn, my⟩, sr, n⟩ = (lZ ba && sZ sr && (n == 0)) := by unfold unB; simp
    rw [hu]
    refine den_of_body k_entry_unused ⟨rfl, Nat.le_of_ble_eq_true rfl, thaw_intro ?_⟩
    unfold c_entry_unused
    simp only [q11, q12, q13, q14, q15, q21, q22, q23, q24, q25, q31, q32, q33, q34, q35, q41, q42, q43, q44, q45, q51, q52, q53, q54, q55, e00, fZ, fs, fl, go_sem]
    generalize mZ ⟨mk, mp, mw, md, mn, my⟩ = z1
    generalize sZ sr = z2
    generalize lZ ba = z3
    generalize (n == 0) = z4
    cases z1 <;> cases z2 <;> cases z3 <;> cases z4 <;> simp only [go_sem] <;> simp only [aresult, ares, go_sem] <;> rfl
  by_cases k4 : kd = 4
  · subst k4
    have hu : unB ⟨4, ba, ⟨mk, mp, mw, md, mn, my⟩, sr, n⟩ = (lZ ba && mZ ⟨mk, mp, mw, md, mn, my⟩ && (n == 0)) := by unfold unB; simp
    rw [hu]
    refine den_of_body k_entry_unused ⟨rfl, Nat.le_of_ble_eq_true rfl, thaw_intro ?_⟩
    unfold c_entry_unused
    simp only [q11, q12, q13, q14, q15, q21, q22, q23, q24, q25, q31, q32, q33, q34, q35, q41, q42, q43, q44, q45, q51, q52, q53, q54, q55, e00, fZ, fs, fl, go_sem]
    generalize mZ ⟨mk, mp, mw, md, mn, my⟩ = z1
    generalize sZ sr = z2
    generalize lZ ba = z3
    generalize (n == 0) = z4
    cases z1 <;> cases z2 <;> cases z3 <;> cases z4 <;> simp only [go_sem] <;> simp only [aresult, ares, go_sem] <;> rfl
  by_cases k5 : kd = 5
  · subst k5
    have hu : unB ⟨5, ba, ⟨mk, mp, mw, md, mn, my⟩, sr, n⟩ = (lZ ba && mZ ⟨mk, mp, mw, md, mn, my⟩ && sZ sr) := by unfold unB; simp
    rw [hu]
    refine den_of_body k_entry_unused ⟨rfl, Nat.le_of_ble_eq_true rfl, thaw_intro ?_⟩
    unfold c_entry_unused
    simp only [q11, q12, q13, q14, q15, q21, q22, q23, q24, q25, q31, q32, q33, q34, q35, q41, q42, q43, q44, q45, q51, q52, q53, q54, q55, e00, fZ, fs, fl, go_sem]
    generalize mZ ⟨mk, mp, mw, md, mn, my⟩ = z1
    generalize sZ sr = z2
    generalize lZ ba = z3
    generalize (n == 0) = z4
    cases z1 <;> cases z2 <;> cases z3 <;> cases z4 <;> simp only [go_sem] <;> simp only [aresult, ares, go_sem] <;> rfl
  by_cases k1 : kd = 1
  · subst k1
    have hu : unB ⟨1, ba, ⟨mk, mp, mw, md, mn, my⟩, sr, n⟩ = (lZ ba && mZ ⟨mk, mp, mw, md, mn, my⟩ && sZ sr && (n == 0)) := by unfold unB; simp
    rw [hu]
    refine den_of_body k_entry_unused ⟨rfl, Nat.le_of_ble_eq_true rfl, thaw_intro ?_⟩
    unfold c_entry_unused
    simp only [q11, q12, q13, q14, q15, q21, q22, q23, q24, q25, q31, q32, q33, q34, q35, q41, q42, q43, q44, q45, q51, q52, q53, q54, q55, e00, fZ, fs, fl, go_sem]
    generalize mZ ⟨mk, mp, mw, md, mn, my⟩ = z1
    generalize sZ sr = z2
    generalize lZ ba = z3
    generalize (n == 0) = z4
    cases z1 <;> cases z2 <;> cases z3 <;> cases z4 <;> simp only [go_sem] <;> simp only [aresult, ares, go_sem] <;> rfl
  have hu : unB ⟨kd, ba, ⟨mk, mp, mw, md, mn, my⟩, sr, n⟩ = false := by unfold unB; simp [k1, k2, k3, k4, k5]
  have b1 : (kd == 1) = false := by simpa using k1
  have b2 : (kd == 2) = false := by simpa using k2
  have b3 : (kd == 3) = false := by simpa using k3
  have b4 : (kd == 4) = false := by simpa using k4
  have b5 : (kd == 5) = false := by simpa using k5
  rw [hu]
  refine den_of_body k_entry_unused ⟨rfl, Nat.le_of_ble_eq_true rfl, thaw_intro ?_⟩
  unfold c_entry_unused
  simp only [b1, b2, b3, b4, b5, go_sem]
  simp only [aresult, ares, go_sem]

end Go.Proofs.Ytpnihinmlmoogaa

/- Entries: equality, the first error. -/
namespace Go.Proofs.Ytpnihinmlmoogaa
open Go Ab Go.RowKit
attribute [local irreducible] awp aops aop asoft aeff aloop acall acallI acallT
attribute [local go_sem] Vl.row sRow

theorem b_same : bodied Try.prog 42 = true := by kernel_rfl

set_option maxRecDepth 100000 in
set_option maxHeartbeats 4000000 in
theorem eqFunc_den (a b : List Req) (ha : a.length ≤ 9223372036854775807) (hf : ∀ r ∈ a, r.fits) : PDen Try.prog 41 [.a (.slice 8 (a.map Req.row)), .a (.slice 8 (b.map Req.row)), .clo 42 []] (.a (.bool (reqsEq a b))) := by
  unfold reqsEq
  by_cases hl : a.length = b.length
  · have q : ((a.length : Int) != (b.length : Int)) = false := by simp [hl]
    refine den_of_body k_slices_EqualFunc_api_Request_api_Request_api_Request_api_Request ⟨rfl, Nat.le_of_ble_eq_true rfl, thaw_intro ?_⟩
    unfold c_slices_EqualFunc_api_Request_api_Request_api_Request_api_Request
    simp only [q, go_sem]
    refine t_loop_intro (fun k : Nat => k ≤ a.length ∧ (eqL reqEq a b = eqL reqEq (a.drop k) (b.drop k))) (fun k => a.length - k) 0 [6, 7, 8, 9, 17, 18, 19, 20, 21, 22, 23, 24, 25, 26, 27, 28, 29, 30, 31] (fun k => [(17, .a (.int .i64 k))]) ⟨by omega, by rfl⟩ (by simp) (fun k => by simp) rfl ?_
    intro k hk0 fr_ hfr
    have hk : k ≤ a.length := hk0.1
    have hall := hk0.2
    clear hk0
    simp only [go_sem] at hfr
    subst hfr
    by_cases hlt : k < a.length
    · have h1 : (k : Int) < (a.length : Int) := by omega
      have h1' : (k : Int) < (b.length : Int) := by omega
      have hlt2 : k < b.length := by omega
      have e := getD_map Req.row a k hlt
      have e2 := getD_map Req.row b k hlt2
      have er := rowr a[k]
      have er2 := rowr b[k]
      have ew := wrap1 k a.length hlt (by omega)
      have es := eqL_step reqEq a b k hlt hlt2
      have hs := same_den a[k] b[k] (hf _ (List.getElem_mem hlt))
      rw [er, er2] at hs
      rw [er] at e
      rw [er2] at e2
      simp only [h1, h1', e, e2, b_same, go_sem]
      refine t_call_intro (hs) ?_
      cases hq : reqEq a[k] b[k] with
      | true =>
        simp only [ew, go_sem]
        refine t_round (k + 1) ⟨by omega, by rw [hall, es, hq]; rfl⟩ (by omega) (by simp) rfl rfl (by simp) rfl
      | false =>
        simp only [go_sem]
        simp only [aresult, ares, go_sem]
        rw [hall, es, hq]; rfl
    · have h1 : ¬ (k : Int) < (a.length : Int) := by omega
      simp only [h1, go_sem]
      simp only [aresult, ares, go_sem]
      rw [hall, List.drop_eq_nil_of_le (by omega), List.drop_eq_nil_of_le (by omega)]; rfl
  · have q : ((a.length : Int) != (b.length : Int)) = true := by simp; omega
    rw [eqL_len reqEq a b hl]
    refine den_of_body k_slices_EqualFunc_api_Request_api_Request_api_Request_api_Request ⟨rfl, Nat.le_of_ble_eq_true rfl, thaw_intro ?_⟩
    unfold c_slices_EqualFunc_api_Request_api_Request_api_Request_api_Request
    simp only [q, go_sem]
    simp only [aresult, ares, go_sem]
def mEq (a b : Mk) : Bool := (a.k == b.k) && ((a.p == b.p) && ((a.w == b.w) && ((a.d == b.d) && ((a.n == b.n) && ((a.y.toList == b.y.toList) && true)))))
def enEq (a b : En) : Bool := (a.kd == b.kd) && reqsEq a.ba b.ba && mEq a.m b.m && (a.sr.toList == b.sr.toList) && (a.n == b.n)
theorem enEq_refl (a : En) : enEq a a = true := by simp [enEq, mEq, reqsEq_refl]

set_option maxRecDepth 100000 in
set_option maxHeartbeats 4000000 in
theorem esame_den (a b : En) (ha : a.ba.length ≤ 9223372036854775807) (hf : ∀ r ∈ a.ba, r.fits) : PDen Try.prog 19 [.agg a.row, .agg b.row] (.a (.bool (enEq a b))) := by
  have hL := eqFunc_den a.ba b.ba ha hf
  obtain ⟨kd, ba, ⟨mk, mp, mw, md, mn, my⟩, sr, n⟩ := a
  obtain ⟨kd', ba', ⟨mk', mp', mw', md', mn', my'⟩, sr', n'⟩ := b
  simp only at hL
  unfold En.row enEq
  simp only []
  have fZ : ((mk == mk') && ((mp == mp') && ((mw == mw') && ((md == md') && ((mn == mn') && ((my.toList == my'.toList) && true)))))) = mEq ⟨mk, mp, mw, md, mn, my⟩ ⟨mk', mp', mw', md', mn', my'⟩ := rfl
  refine den_of_body k_entry_Same ⟨rfl, Nat.le_of_ble_eq_true rfl, thaw_intro ?_⟩
  unfold c_entry_Same
  simp only [go_sem]
  cases (kd == kd')
  · simp only [go_sem]
    simp only [aresult, ares, go_sem]
    rfl
  simp only [go_sem]
  refine t_call_intro (hL) ?_
  cases reqsEq ba ba'
  · simp only [go_sem]
    simp only [aresult, ares, go_sem]
    rfl
  simp only [fZ, go_sem]
  cases mEq ⟨mk, mp, mw, md, mn, my⟩ ⟨mk', mp', mw', md', mn', my'⟩
  · simp only [go_sem]
    simp only [aresult, ares, go_sem]
    rfl
  simp only [go_sem]
  cases (sr.toList == sr'.toList)
  · simp only [go_sem]
    simp only [aresult, ares, go_sem]
    rfl
  simp only [go_sem]
  simp only [aresult, ares, go_sem]
  rfl

set_option maxRecDepth 100000 in
set_option maxHeartbeats 4000000 in
theorem resame_den (a b : En) (ha : a.ba.length ≤ 9223372036854775807) (hf : ∀ r ∈ a.ba, r.fits) : PDen Try.prog 20 [.agg a.row, .agg b.row] (.a (.bool (enEq a b))) := by
  have hL := rsamelist_den a.ba b.ba ha hf
  obtain ⟨kd, ba, ⟨mk, mp, mw, md, mn, my⟩, sr, n⟩ := a
  obtain ⟨kd', ba', ⟨mk', mp', mw', md', mn', my'⟩, sr', n'⟩ := b
  simp only at hL
  unfold En.row enEq
  simp only []
  have fZ : ((mk == mk') && ((mp == mp') && ((mw == mw') && ((md == md') && ((mn == mn') && ((my.toList == my'.toList) && true)))))) = mEq ⟨mk, mp, mw, md, mn, my⟩ ⟨mk', mp', mw', md', mn', my'⟩ := rfl
  refine den_of_body k_ref39_Same ⟨rfl, Nat.le_of_ble_eq_true rfl, thaw_intro ?_⟩
  unfold c_ref39_Same
  simp only [go_sem]
  cases (kd == kd')
  · simp only [go_sem]
    simp only [aresult, ares, go_sem]
    rfl
  simp only [go_sem]
  refine t_call_intro (hL) ?_
  cases reqsEq ba ba'
  · simp only [go_sem]
    simp only [aresult, ares, go_sem]
    rfl
  simp only [fZ, go_sem]
  cases mEq ⟨mk, mp, mw, md, mn, my⟩ ⟨mk', mp', mw', md', mn', my'⟩
  · simp only [go_sem]
    simp only [aresult, ares, go_sem]
    rfl
  simp only [go_sem]
  cases (sr.toList == sr'.toList)
  · simp only [go_sem]
    simp only [aresult, ares, go_sem]
    rfl
  simp only [go_sem]
  simp only [aresult, ares, go_sem]
  rfl

set_option maxRecDepth 100000 in
set_option maxHeartbeats 4000000 in
theorem valid_den (e : En) (h : e.fit) : PDen Try.prog 17 [.agg e.row] (.a (.int .i64 (enE e))) := by
  have hall0 := h.all
  have hlen := h.ba
  have hy := h.y
  have hU := unused_den e
  obtain ⟨kd, ba, ⟨mk, mp, mw, md, mn, my⟩, sr, n⟩ := e
  simp only at hall0 hlen hy
  have hM := marker_den ⟨mk, mp, mw, md, mn, my⟩ hy
  have hC := inCount_den n
  unfold Mk.row at hM
  unfold En.row at hU ⊢
  simp only [] at hU hM ⊢
  cases hu : unB ⟨kd, ba, ⟨mk, mp, mw, md, mn, my⟩, sr, n⟩ with
  | false =>
    have hE : enE ⟨kd, ba, ⟨mk, mp, mw, md, mn, my⟩, sr, n⟩ = 1 := if_pos hu
    rw [hu] at hU
    rw [hE]
    refine den_of_body k_entry_Validate ⟨rfl, Nat.le_of_ble_eq_true rfl, thaw_intro ?_⟩
    unfold c_entry_Validate
    simp only [go_sem]
    refine t_call_intro (hU) ?_
    simp only [go_sem]
    simp only [aresult, ares, go_sem]
  | true =>
  rw [hu] at hU
  unfold enE
  rw [if_neg (by rw [hu]; simp)]
  simp only []
  by_cases k2 : kd = 2
  · subst k2
    rw [if_pos rfl]
    by_cases h32 : 32 < ba.length
    · have q32 : (32 : Int) < (ba.length : Int) := by omega
      rw [if_pos h32]
      refine den_of_body k_entry_Validate ⟨rfl, Nat.le_of_ble_eq_true rfl, thaw_intro ?_⟩
      unfold c_entry_Validate
      simp only [go_sem]
      refine t_call_intro (hU) ?_
      simp only [q22, q32, go_sem]
      simp only [aresult, ares, go_sem]
    have q32 : ¬ (32 : Int) < (ba.length : Int) := by omega
    rw [if_neg h32]
    refine den_of_body k_entry_Validate ⟨rfl, Nat.le_of_ble_eq_true rfl, thaw_intro ?_⟩
    unfold c_entry_Validate
    simp only [go_sem]
    refine t_call_intro (hU) ?_
    simp only [q22, q32, go_sem]
    refine t_loop_intro (fun k : Nat => k ≤ ba.length ∧ (firstE ba = firstE (ba.drop k))) (fun k => ba.length - k) 0 [2, 4, 5, 20, 21, 22, 23, 24, 25, 26, 27, 28, 29] (fun k => [(20, .a (.int .i64 k))]) ⟨by omega, by rfl⟩ (by simp) (fun k => by simp) rfl ?_
    intro k hk0 fr_ hfr
    have hk : k ≤ ba.length := hk0.1
    have hall := hk0.2
    clear hk0
    simp only [go_sem] at hfr
    subst hfr
    by_cases hlt : k < ba.length
    · have h1 : (k : Int) < (ba.length : Int) := by omega
      have e := getD_map Req.row ba k hlt
      have er := rowr ba[k]
      have ew := wrap1 k ba.length hlt (by omega)
      have es := firstE_step ba k hlt
      have hE := reqE_den ba[k] (hall0 _ (List.getElem_mem hlt))
      rw [er] at hE e
      simp only [h1, e, go_sem]
      refine t_call_intro (hE) ?_
      by_cases he : reqE ba[k] = 0
      · have n0 : (reqE ba[k] != 0) = false := by simp [he]
        simp only [n0, ew, go_sem]
        refine t_round (k + 1) ⟨by omega, by rw [hall, es, if_neg (by simpa using he)]⟩ (by omega) (by simp) rfl rfl (by simp) rfl
      · have n0 : (reqE ba[k] != 0) = true := by simpa using he
        simp only [n0, go_sem]
        simp only [aresult, ares, go_sem]
        rw [hall, es, if_pos he]
    · have h1 : ¬ (k : Int) < (ba.length : Int) := by omega
      have hz : firstE ba = 0 := by rw [hall, List.drop_eq_nil_of_le (by omega)]; rfl
      rw [hz]
      simp only [h1, go_sem]
      simp only [aresult, ares, go_sem]
  have n2 : (kd == 2) = false := by simpa using k2
  rw [if_neg k2]
  by_cases k3 : kd = 3
  · subst k3
    rw [if_pos rfl]
    refine den_of_body k_entry_Validate ⟨rfl, Nat.le_of_ble_eq_true rfl, thaw_intro ?_⟩
    unfold c_entry_Validate
    simp only [go_sem]
    refine t_call_intro (hU) ?_
    simp only [q32, q33, go_sem]
    refine t_call_intro (hM) ?_
    cases mkV ⟨mk, mp, mw, md, mn, my⟩
    · simp only [go_sem]
      simp only [aresult, ares, go_sem]
    · simp only [go_sem]
      simp only [aresult, ares, go_sem]
  have n3 : (kd == 3) = false := by simpa using k3
  rw [if_neg k3]
  by_cases k4 : kd = 4
  · subst k4
    rw [if_pos rfl]
    have fs : (sr.toList == []) = sZ sr := rfl
    cases hz : sZ sr with
    | true =>
      refine den_of_body k_entry_Validate ⟨rfl, Nat.le_of_ble_eq_true rfl, thaw_intro ?_⟩
      unfold c_entry_Validate
      simp only [go_sem]
      refine t_call_intro (hU) ?_
      simp only [q42, q43, q44, e00, fs, hz, go_sem]
      simp only [aresult, ares, go_sem]
    | false =>
      by_cases h16 : 16384 < sr.size
      · have q16 : (16384 : Int) < (sr.size : Int) := by omega
        rw [if_neg (by simp), if_pos h16]
        refine den_of_body k_entry_Validate ⟨rfl, Nat.le_of_ble_eq_true rfl, thaw_intro ?_⟩
        unfold c_entry_Validate
        simp only [go_sem]
        refine t_call_intro (hU) ?_
        simp only [q42, q43, q44, e00, fs, hz, q16, go_sem]
        simp only [aresult, ares, go_sem]
      · have q16 : ¬ (16384 : Int) < (sr.size : Int) := by omega
        rw [if_neg (by simp), if_neg h16]
        refine den_of_body k_entry_Validate ⟨rfl, Nat.le_of_ble_eq_true rfl, thaw_intro ?_⟩
        unfold c_entry_Validate
        simp only [go_sem]
        refine t_call_intro (hU) ?_
        simp only [q42, q43, q44, e00, fs, hz, q16, go_sem]
        simp only [aresult, ares, go_sem]
  have n4 : (kd == 4) = false := by simpa using k4
  rw [if_neg k4]
  by_cases k5 : kd = 5
  · subst k5
    rw [if_pos rfl]
    refine den_of_body k_entry_Validate ⟨rfl, Nat.le_of_ble_eq_true rfl, thaw_intro ?_⟩
    unfold c_entry_Validate
    simp only [go_sem]
    refine t_call_intro (hU) ?_
    simp only [q52, q53, q54, q55, go_sem]
    refine t_call_intro (hC) ?_
    cases cntB n
    · simp only [go_sem]
      simp only [aresult, ares, go_sem]
    · simp only [go_sem]
      simp only [aresult, ares, go_sem]
  have n5 : (kd == 5) = false := by simpa using k5
  rw [if_neg k5]
  refine den_of_body k_entry_Validate ⟨rfl, Nat.le_of_ble_eq_true rfl, thaw_intro ?_⟩
  unfold c_entry_Validate
  simp only [go_sem]
  refine t_call_intro (hU) ?_
  simp only [n2, n3, n4, n5, go_sem]
  simp only [aresult, ares, go_sem]

theorem p12 : ((1 : Int) != 2) = true := rfl
theorem p13 : ((1 : Int) != 3) = true := rfl
theorem p14 : ((1 : Int) != 4) = true := rfl
theorem p15 : ((1 : Int) != 5) = true := rfl
theorem p22 : ((2 : Int) != 2) = false := rfl
theorem p23 : ((2 : Int) != 3) = true := rfl
theorem p24 : ((2 : Int) != 4) = true := rfl
theorem p25 : ((2 : Int) != 5) = true := rfl
theorem p32 : ((3 : Int) != 2) = true := rfl
theorem p33 : ((3 : Int) != 3) = false := rfl
theorem p34 : ((3 : Int) != 4) = true := rfl
theorem p35 : ((3 : Int) != 5) = true := rfl
theorem p42 : ((4 : Int) != 2) = true := rfl
theorem p43 : ((4 : Int) != 3) = true := rfl
theorem p44 : ((4 : Int) != 4) = false := rfl
theorem p45 : ((4 : Int) != 5) = true := rfl
theorem p52 : ((5 : Int) != 2) = true := rfl
theorem p53 : ((5 : Int) != 3) = true := rfl
theorem p54 : ((5 : Int) != 4) = true := rfl
theorem p55 : ((5 : Int) != 5) = false := rfl
theorem lt01 : ¬ (1 : Int) < 1 := by decide
theorem lt21 : ¬ (2 : Int) < 1 := by decide
theorem lt31 : ¬ (3 : Int) < 1 := by decide
theorem lt41 : ¬ (4 : Int) < 1 := by decide
theorem lt51 : ¬ (5 : Int) < 1 := by decide
theorem lt15 : ¬ (5 : Int) < 1 := by decide
theorem lt25 : ¬ (5 : Int) < 2 := by decide
theorem lt35 : ¬ (5 : Int) < 3 := by decide
theorem lt45 : ¬ (5 : Int) < 4 := by decide
theorem lt55 : ¬ (5 : Int) < 5 := by decide
theorem lZ_of {l : List Req} (h : lZ l = true) : l.length = 0 := by simp only [lZ, beq_iff_eq] at h; omega
theorem sZ_of {s : ByteArray} (h : sZ s = true) : s.size = 0 := by unfold sZ at h; rw [size0] at h; exact of_decide_eq_true h
theorem cnt0 : cntB 0 = true := rfl

theorem n00 : ((0 : Int) == 0) = true := rfl
theorem n01 : ((0 : Int) != 0) = false := rfl
set_option maxRecDepth 100000 in
set_option maxHeartbeats 4000000 in
theorem rvalid_den (e : En) (h : e.fit) : PDen Try.prog 18 [.agg e.row] (.a (.int .i64 (enE e))) := by
  have hall0 := h.all
  have hlen := h.ba
  have hy := h.y
  obtain ⟨kd, ba, ⟨mk, mp, mw, md, mn, my⟩, sr, n⟩ := e
  simp only at hall0 hlen hy
  have hM := rmarker_den ⟨mk, mp, mw, md, mn, my⟩ hy
  have hC := rcount_den n
  unfold Mk.row at hM
  unfold En.row
  simp only [] at hM ⊢
  have fZ : ((mk == 0) && ((mp == 0) && ((mw == 0) && ((md == 0) && ((mn == 0) && ((my.toList == []) && true)))))) = mZ ⟨mk, mp, mw, md, mn, my⟩ := rfl
  have fS : (sr.toList != []) = !sZ sr := rfl
  have fS2 : (sr.toList == []) = sZ sr := rfl
  have fL : decide ((0 : Int) < (ba.length : Int)) = !lZ ba := by
    unfold lZ
    by_cases hz : ba.length = 0
    · simp [hz]
    · have h1 : (0 : Int) < (ba.length : Int) := by omega
      have h2 : ¬ (ba.length : Int) = 0 := by omega
      rw [decide_eq_true h1, beq_false_of_ne h2]; rfl
  have fN : (n != 0) = !(n == 0) := rfl
  by_cases k2 : kd = 2
  · subst k2
    have hu : unB ⟨2, ba, ⟨mk, mp, mw, md, mn, my⟩, sr, n⟩ = (mZ ⟨mk, mp, mw, md, mn, my⟩ && sZ sr && (n == 0)) := by unfold unB; simp
    cases hq : unB ⟨2, ba, ⟨mk, mp, mw, md, mn, my⟩, sr, n⟩ with
    | false =>
      have hE : enE ⟨2, ba, ⟨mk, mp, mw, md, mn, my⟩, sr, n⟩ = 1 := if_pos hq
      rw [hq] at hu
      rw [hE]
      by_cases zm : mZ ⟨mk, mp, mw, md, mn, my⟩ = false
      · refine den_of_body k_ref39_Validate ⟨rfl, Nat.le_of_ble_eq_true rfl, thaw_intro ?_⟩
        unfold c_ref39_Validate
        simp only [lt01, lt15, lt21, lt25, lt31, lt35, lt41, lt45, lt51, lt55, p22, p23, p24, p25, q23, q24, e00, fL, fS, fZ, fN, fS2, zm, go_sem]
        simp only [aresult, ares, go_sem]
      have ym : mZ ⟨mk, mp, mw, md, mn, my⟩ = true := by simpa using zm
      by_cases zs : sZ sr = false
      · refine den_of_body k_ref39_Validate ⟨rfl, Nat.le_of_ble_eq_true rfl, thaw_intro ?_⟩
        unfold c_ref39_Validate
        simp only [lt01, lt15, lt21, lt25, lt31, lt35, lt41, lt45, lt51, lt55, p22, p23, p24, p25, q23, q24, e00, fL, fS, fZ, fN, fS2, ym, zs, go_sem]
        simp only [aresult, ares, go_sem]
      have ys : sZ sr = true := by simpa using zs
      by_cases zn : (n == 0) = false
      · refine den_of_body k_ref39_Validate ⟨rfl, Nat.le_of_ble_eq_true rfl, thaw_intro ?_⟩
        unfold c_ref39_Validate
        simp only [lt01, lt15, lt21, lt25, lt31, lt35, lt41, lt45, lt51, lt55, p22, p23, p24, p25, q23, q24, e00, fL, fS, fZ, fN, fS2, ym, ys, zn, go_sem]
        simp only [aresult, ares, go_sem]
      have yn : (n == 0) = true := by simpa using zn
      rw [ym, ys, yn] at hu
      cases hu
    | true =>
      rw [hq] at hu
      have hE : enE ⟨2, ba, ⟨mk, mp, mw, md, mn, my⟩, sr, n⟩ = (if 32 < ba.length then 2 else firstE ba) := by unfold enE; rw [if_neg (by rw [hq]; simp)]; simp
      rw [hE]
      have hu := hu.symm
      simp only [Bool.and_eq_true] at hu
      obtain ⟨⟨um, us⟩, un⟩ := hu
      have n0 : n = 0 := by simpa using un
      subst n0
      have sz := sZ_of us
      have q16 : ¬ (16384 : Int) < (sr.size : Int) := by omega
      by_cases h32 : 32 < ba.length
      · have q32 : (32 : Int) < (ba.length : Int) := by omega
        rw [if_pos h32]
        refine den_of_body k_ref39_Validate ⟨rfl, Nat.le_of_ble_eq_true rfl, thaw_intro ?_⟩
        unfold c_ref39_Validate
        simp only [lt01, lt15, lt21, lt25, lt31, lt35, lt41, lt45, lt51, lt55, p22, p23, p24, p25, q23, q24, e00, fL, fS, fZ, fN, fS2, um, us, n00, n01, q32, go_sem]
        simp only [aresult, ares, go_sem]
      · have q32 : ¬ (32 : Int) < (ba.length : Int) := by omega
        rw [if_neg h32]
        refine den_of_body k_ref39_Validate ⟨rfl, Nat.le_of_ble_eq_true rfl, thaw_intro ?_⟩
        unfold c_ref39_Validate
        simp only [lt01, lt15, lt21, lt25, lt31, lt35, lt41, lt45, lt51, lt55, p22, p23, p24, p25, q23, q24, e00, fL, fS, fZ, fN, fS2, um, us, n00, n01, q32, go_sem]
        refine t_loop_intro (fun k : Nat => k ≤ ba.length ∧ (firstE ba = firstE (ba.drop k))) (fun k => ba.length - k) 0 [2, 3, 4, 59, 60, 61, 62, 63, 64, 65, 66, 67, 68, 69, 70, 71, 72, 73, 74] (fun k => [(3, .a (.int .i64 k))]) ⟨by omega, by rfl⟩ (by simp) (fun k => by simp) rfl ?_
        intro k hk0 fr_ hfr
        have hk : k ≤ ba.length := hk0.1
        have hall := hk0.2
        clear hk0
        simp only [go_sem] at hfr
        subst hfr
        by_cases hlt : k < ba.length
        · have h1 : (k : Int) < (ba.length : Int) := by omega
          have e := getD_map Req.row ba k hlt
          have er := rowr ba[k]
          have ew := wrap1 k ba.length hlt (by omega)
          have es := firstE_step ba k hlt
          have hE := rreqE_den ba[k] (hall0 _ (List.getElem_mem hlt))
          rw [er] at hE e
          simp only [h1, e, go_sem]
          refine t_call_intro (hE) ?_
          by_cases he : reqE ba[k] = 0
          · have n0 : (reqE ba[k] != 0) = false := by simp [he]
            simp only [n0, ew, go_sem]
            refine t_round (k + 1) ⟨by omega, by rw [hall, es, if_neg (by simpa using he)]⟩ (by omega) (by simp) rfl rfl (by simp) rfl
          · have n0 : (reqE ba[k] != 0) = true := by simpa using he
            simp only [n0, go_sem]
            simp only [aresult, ares, go_sem]
            rw [hall, es, if_pos he]
        · have h1 : ¬ (k : Int) < (ba.length : Int) := by omega
          have hz : firstE ba = 0 := by rw [hall, List.drop_eq_nil_of_le (by omega)]; rfl
          rw [hz]
          simp only [h1, lt01, lt15, lt21, lt25, lt31, lt35, lt41, lt45, lt51, lt55, p22, p23, p24, p25, q23, q24, e00, fL, fS, fZ, fN, fS2, um, us, n00, n01, go_sem]
          refine t_call_intro (hC) ?_
          simp only [cnt0, q16, go_sem]
          simp only [aresult, ares, go_sem]
  by_cases k3 : kd = 3
  · subst k3
    have hu : unB ⟨3, ba, ⟨mk, mp, mw, md, mn, my⟩, sr, n⟩ = (lZ ba && sZ sr && (n == 0)) := by unfold unB; simp
    cases hq : unB ⟨3, ba, ⟨mk, mp, mw, md, mn, my⟩, sr, n⟩ with
    | false =>
      have hE : enE ⟨3, ba, ⟨mk, mp, mw, md, mn, my⟩, sr, n⟩ = 1 := if_pos hq
      rw [hq] at hu
      rw [hE]
      by_cases zl : lZ ba = false
      · refine den_of_body k_ref39_Validate ⟨rfl, Nat.le_of_ble_eq_true rfl, thaw_intro ?_⟩
        unfold c_ref39_Validate
        simp only [lt01, lt15, lt21, lt25, lt31, lt35, lt41, lt45, lt51, lt55, p32, p33, p34, p35, q33, q34, e00, fL, fS, fZ, fN, fS2, zl, go_sem]
        simp only [aresult, ares, go_sem]
      have yl : lZ ba = true := by simpa using zl
      by_cases zs : sZ sr = false
      · refine den_of_body k_ref39_Validate ⟨rfl, Nat.le_of_ble_eq_true rfl, thaw_intro ?_⟩
        unfold c_ref39_Validate
        simp only [lt01, lt15, lt21, lt25, lt31, lt35, lt41, lt45, lt51, lt55, p32, p33, p34, p35, q33, q34, e00, fL, fS, fZ, fN, fS2, yl, zs, go_sem]
        simp only [aresult, ares, go_sem]
      have ys : sZ sr = true := by simpa using zs
      by_cases zn : (n == 0) = false
      · refine den_of_body k_ref39_Validate ⟨rfl, Nat.le_of_ble_eq_true rfl, thaw_intro ?_⟩
        unfold c_ref39_Validate
        simp only [lt01, lt15, lt21, lt25, lt31, lt35, lt41, lt45, lt51, lt55, p32, p33, p34, p35, q33, q34, e00, fL, fS, fZ, fN, fS2, yl, ys, zn, go_sem]
        simp only [aresult, ares, go_sem]
      have yn : (n == 0) = true := by simpa using zn
      rw [yl, ys, yn] at hu
      cases hu
    | true =>
      rw [hq] at hu
      have hE : enE ⟨3, ba, ⟨mk, mp, mw, md, mn, my⟩, sr, n⟩ = (if mkV ⟨mk, mp, mw, md, mn, my⟩ = true then 0 else 1) := by unfold enE; rw [if_neg (by rw [hq]; simp)]; simp
      rw [hE]
      have hu := hu.symm
      simp only [Bool.and_eq_true] at hu
      obtain ⟨⟨ul, us⟩, un⟩ := hu
      have n0 : n = 0 := by simpa using un
      subst n0
      have sz := sZ_of us
      have q16 : ¬ (16384 : Int) < (sr.size : Int) := by omega
      have lz := lZ_of ul
      have q32 : ¬ (32 : Int) < (ba.length : Int) := by omega
      refine den_of_body k_ref39_Validate ⟨rfl, Nat.le_of_ble_eq_true rfl, thaw_intro ?_⟩
      unfold c_ref39_Validate
      simp only [lt01, lt15, lt21, lt25, lt31, lt35, lt41, lt45, lt51, lt55, p32, p33, p34, p35, q33, q34, e00, fL, fS, fZ, fN, fS2, ul, us, n00, n01, q32, go_sem]
      refine t_loop_intro (fun k : Nat => k ≤ ba.length) (fun k => ba.length - k) 0 [2, 3, 4, 59, 60, 61, 62, 63, 64, 65, 66, 67, 68, 69, 70, 71, 72, 73, 74] (fun k => [(3, .a (.int .i64 k))]) (by omega) (by simp) (fun k => by simp) rfl ?_
      intro k hk fr_ hfr
      simp only [go_sem] at hfr
      subst hfr
      by_cases hlt : k < ba.length
      · omega
      · have h1 : ¬ (k : Int) < (ba.length : Int) := by omega
        simp only [h1, lt01, lt15, lt21, lt25, lt31, lt35, lt41, lt45, lt51, lt55, p32, p33, p34, p35, q33, q34, e00, fL, fS, fZ, fN, fS2, ul, us, n00, n01, go_sem]
        refine t_call_intro (hM) ?_
        cases mkV ⟨mk, mp, mw, md, mn, my⟩
        · simp only [go_sem]
          simp only [aresult, ares, go_sem]
        simp only [q34, us, fS2, e00, go_sem]
        refine t_call_intro (hC) ?_
        simp only [cnt0, q16, go_sem]
        simp only [aresult, ares, go_sem]
  by_cases k4 : kd = 4
  · subst k4
    have hu : unB ⟨4, ba, ⟨mk, mp, mw, md, mn, my⟩, sr, n⟩ = (lZ ba && mZ ⟨mk, mp, mw, md, mn, my⟩ && (n == 0)) := by unfold unB; simp
    cases hq : unB ⟨4, ba, ⟨mk, mp, mw, md, mn, my⟩, sr, n⟩ with
    | false =>
      have hE : enE ⟨4, ba, ⟨mk, mp, mw, md, mn, my⟩, sr, n⟩ = 1 := if_pos hq
      rw [hq] at hu
      rw [hE]
      by_cases zl : lZ ba = false
      · refine den_of_body k_ref39_Validate ⟨rfl, Nat.le_of_ble_eq_true rfl, thaw_intro ?_⟩
        unfold c_ref39_Validate
        simp only [lt01, lt15, lt21, lt25, lt31, lt35, lt41, lt45, lt51, lt55, p42, p43, p44, p45, q43, q44, e00, fL, fS, fZ, fN, fS2, zl, go_sem]
        simp only [aresult, ares, go_sem]
      have yl : lZ ba = true := by simpa using zl
      by_cases zm : mZ ⟨mk, mp, mw, md, mn, my⟩ = false
      · refine den_of_body k_ref39_Validate ⟨rfl, Nat.le_of_ble_eq_true rfl, thaw_intro ?_⟩
        unfold c_ref39_Validate
        simp only [lt01, lt15, lt21, lt25, lt31, lt35, lt41, lt45, lt51, lt55, p42, p43, p44, p45, q43, q44, e00, fL, fS, fZ, fN, fS2, yl, zm, go_sem]
        simp only [aresult, ares, go_sem]
      have ym : mZ ⟨mk, mp, mw, md, mn, my⟩ = true := by simpa using zm
      by_cases zn : (n == 0) = false
      · refine den_of_body k_ref39_Validate ⟨rfl, Nat.le_of_ble_eq_true rfl, thaw_intro ?_⟩
        unfold c_ref39_Validate
        simp only [lt01, lt15, lt21, lt25, lt31, lt35, lt41, lt45, lt51, lt55, p42, p43, p44, p45, q43, q44, e00, fL, fS, fZ, fN, fS2, yl, ym, zn, go_sem]
        simp only [aresult, ares, go_sem]
      have yn : (n == 0) = true := by simpa using zn
      rw [yl, ym, yn] at hu
      cases hu
    | true =>
      rw [hq] at hu
      have hE : enE ⟨4, ba, ⟨mk, mp, mw, md, mn, my⟩, sr, n⟩ = (if sZ sr = true then 1 else if 16384 < sr.size then 2 else 0) := by unfold enE; rw [if_neg (by rw [hq]; simp)]; simp
      rw [hE]
      have hu := hu.symm
      simp only [Bool.and_eq_true] at hu
      obtain ⟨⟨ul, um⟩, un⟩ := hu
      have n0 : n = 0 := by simpa using un
      subst n0
      have lz := lZ_of ul
      have q32 : ¬ (32 : Int) < (ba.length : Int) := by omega
      cases hz : sZ sr with
      | true =>
        refine den_of_body k_ref39_Validate ⟨rfl, Nat.le_of_ble_eq_true rfl, thaw_intro ?_⟩
        unfold c_ref39_Validate
        simp only [lt01, lt15, lt21, lt25, lt31, lt35, lt41, lt45, lt51, lt55, p42, p43, p44, p45, q43, q44, e00, fL, fS, fZ, fN, fS2, ul, um, n00, n01, q32, go_sem]
        refine t_loop_intro (fun k : Nat => k ≤ ba.length) (fun k => ba.length - k) 0 [2, 3, 4, 59, 60, 61, 62, 63, 64, 65, 66, 67, 68, 69, 70, 71, 72, 73, 74] (fun k => [(3, .a (.int .i64 k))]) (by omega) (by simp) (fun k => by simp) rfl ?_
        intro k hk fr_ hfr
        simp only [go_sem] at hfr
        subst hfr
        by_cases hlt : k < ba.length
        · omega
        · have h1 : ¬ (k : Int) < (ba.length : Int) := by omega
          simp only [h1, lt01, lt15, lt21, lt25, lt31, lt35, lt41, lt45, lt51, lt55, p42, p43, p44, p45, q43, q44, e00, fL, fS, fZ, fN, fS2, ul, um, n00, n01, hz, go_sem]
          simp only [aresult, ares, go_sem]
      | false =>
        by_cases h16 : 16384 < sr.size
        · have q16 : (16384 : Int) < (sr.size : Int) := by omega
          rw [if_neg (by simp), if_pos h16]
          refine den_of_body k_ref39_Validate ⟨rfl, Nat.le_of_ble_eq_true rfl, thaw_intro ?_⟩
          unfold c_ref39_Validate
          simp only [lt01, lt15, lt21, lt25, lt31, lt35, lt41, lt45, lt51, lt55, p42, p43, p44, p45, q43, q44, e00, fL, fS, fZ, fN, fS2, ul, um, n00, n01, q32, go_sem]
          refine t_loop_intro (fun k : Nat => k ≤ ba.length) (fun k => ba.length - k) 0 [2, 3, 4, 59, 60, 61, 62, 63, 64, 65, 66, 67, 68, 69, 70, 71, 72, 73, 74] (fun k => [(3, .a (.int .i64 k))]) (by omega) (by simp) (fun k => by simp) rfl ?_
          intro k hk fr_ hfr
          simp only [go_sem] at hfr
          subst hfr
          by_cases hlt : k < ba.length
          · omega
          · have h1 : ¬ (k : Int) < (ba.length : Int) := by omega
            simp only [h1, lt01, lt15, lt21, lt25, lt31, lt35, lt41, lt45, lt51, lt55, p42, p43, p44, p45, q43, q44, e00, fL, fS, fZ, fN, fS2, ul, um, n00, n01, hz, go_sem]
            refine t_call_intro (hC) ?_
            simp only [cnt0, q16, go_sem]
            simp only [aresult, ares, go_sem]
        · have q16 : ¬ (16384 : Int) < (sr.size : Int) := by omega
          rw [if_neg (by simp), if_neg h16]
          refine den_of_body k_ref39_Validate ⟨rfl, Nat.le_of_ble_eq_true rfl, thaw_intro ?_⟩
          unfold c_ref39_Validate
          simp only [lt01, lt15, lt21, lt25, lt31, lt35, lt41, lt45, lt51, lt55, p42, p43, p44, p45, q43, q44, e00, fL, fS, fZ, fN, fS2, ul, um, n00, n01, q32, go_sem]
          refine t_loop_intro (fun k : Nat => k ≤ ba.length) (fun k => ba.length - k) 0 [2, 3, 4, 59, 60, 61, 62, 63, 64, 65, 66, 67, 68, 69, 70, 71, 72, 73, 74] (fun k => [(3, .a (.int .i64 k))]) (by omega) (by simp) (fun k => by simp) rfl ?_
          intro k hk fr_ hfr
          simp only [go_sem] at hfr
          subst hfr
          by_cases hlt : k < ba.length
          · omega
          · have h1 : ¬ (k : Int) < (ba.length : Int) := by omega
            simp only [h1, lt01, lt15, lt21, lt25, lt31, lt35, lt41, lt45, lt51, lt55, p42, p43, p44, p45, q43, q44, e00, fL, fS, fZ, fN, fS2, ul, um, n00, n01, hz, go_sem]
            refine t_call_intro (hC) ?_
            simp only [cnt0, q16, go_sem]
            simp only [aresult, ares, go_sem]
  by_cases k5 : kd = 5
  · subst k5
    have hu : unB ⟨5, ba, ⟨mk, mp, mw, md, mn, my⟩, sr, n⟩ = (lZ ba && mZ ⟨mk, mp, mw, md, mn, my⟩ && sZ sr) := by unfold unB; simp
    cases hq : unB ⟨5, ba, ⟨mk, mp, mw, md, mn, my⟩, sr, n⟩ with
    | false =>
      have hE : enE ⟨5, ba, ⟨mk, mp, mw, md, mn, my⟩, sr, n⟩ = 1 := if_pos hq
      rw [hq] at hu
      rw [hE]
      by_cases zl : lZ ba = false
      · refine den_of_body k_ref39_Validate ⟨rfl, Nat.le_of_ble_eq_true rfl, thaw_intro ?_⟩
        unfold c_ref39_Validate
        simp only [lt01, lt15, lt21, lt25, lt31, lt35, lt41, lt45, lt51, lt55, p52, p53, p54, p55, q53, q54, e00, fL, fS, fZ, fN, fS2, zl, go_sem]
        simp only [aresult, ares, go_sem]
      have yl : lZ ba = true := by simpa using zl
      by_cases zm : mZ ⟨mk, mp, mw, md, mn, my⟩ = false
      · refine den_of_body k_ref39_Validate ⟨rfl, Nat.le_of_ble_eq_true rfl, thaw_intro ?_⟩
        unfold c_ref39_Validate
        simp only [lt01, lt15, lt21, lt25, lt31, lt35, lt41, lt45, lt51, lt55, p52, p53, p54, p55, q53, q54, e00, fL, fS, fZ, fN, fS2, yl, zm, go_sem]
        simp only [aresult, ares, go_sem]
      have ym : mZ ⟨mk, mp, mw, md, mn, my⟩ = true := by simpa using zm
      by_cases zs : sZ sr = false
      · refine den_of_body k_ref39_Validate ⟨rfl, Nat.le_of_ble_eq_true rfl, thaw_intro ?_⟩
        unfold c_ref39_Validate
        simp only [lt01, lt15, lt21, lt25, lt31, lt35, lt41, lt45, lt51, lt55, p52, p53, p54, p55, q53, q54, e00, fL, fS, fZ, fN, fS2, yl, ym, zs, go_sem]
        simp only [aresult, ares, go_sem]
      have ys : sZ sr = true := by simpa using zs
      rw [yl, ym, ys] at hu
      cases hu
    | true =>
      rw [hq] at hu
      have hE : enE ⟨5, ba, ⟨mk, mp, mw, md, mn, my⟩, sr, n⟩ = (if cntB n = true then 0 else 1) := by unfold enE; rw [if_neg (by rw [hq]; simp)]; simp
      rw [hE]
      have hu := hu.symm
      simp only [Bool.and_eq_true] at hu
      obtain ⟨⟨ul, um⟩, us⟩ := hu
      have sz := sZ_of us
      have q16 : ¬ (16384 : Int) < (sr.size : Int) := by omega
      have lz := lZ_of ul
      have q32 : ¬ (32 : Int) < (ba.length : Int) := by omega
      refine den_of_body k_ref39_Validate ⟨rfl, Nat.le_of_ble_eq_true rfl, thaw_intro ?_⟩
      unfold c_ref39_Validate
      simp only [lt01, lt15, lt21, lt25, lt31, lt35, lt41, lt45, lt51, lt55, p52, p53, p54, p55, q53, q54, e00, fL, fS, fZ, fN, fS2, ul, um, us, q32, go_sem]
      refine t_loop_intro (fun k : Nat => k ≤ ba.length) (fun k => ba.length - k) 0 [2, 3, 4, 59, 60, 61, 62, 63, 64, 65, 66, 67, 68, 69, 70, 71, 72, 73, 74] (fun k => [(3, .a (.int .i64 k))]) (by omega) (by simp) (fun k => by simp) rfl ?_
      intro k hk fr_ hfr
      simp only [go_sem] at hfr
      subst hfr
      by_cases hlt : k < ba.length
      · omega
      · have h1 : ¬ (k : Int) < (ba.length : Int) := by omega
        simp only [h1, lt01, lt15, lt21, lt25, lt31, lt35, lt41, lt45, lt51, lt55, p52, p53, p54, p55, q53, q54, e00, fL, fS, fZ, fN, fS2, ul, um, us, go_sem]
        refine t_call_intro (hC) ?_
        cases cntB n
        · simp only [go_sem]
          simp only [aresult, ares, go_sem]
        · simp only [q16, go_sem]
          simp only [aresult, ares, go_sem]
  by_cases k1 : kd = 1
  · subst k1
    have hu : unB ⟨1, ba, ⟨mk, mp, mw, md, mn, my⟩, sr, n⟩ = (lZ ba && mZ ⟨mk, mp, mw, md, mn, my⟩ && sZ sr && (n == 0)) := by unfold unB; simp
    cases hq : unB ⟨1, ba, ⟨mk, mp, mw, md, mn, my⟩, sr, n⟩ with
    | false =>
      have hE : enE ⟨1, ba, ⟨mk, mp, mw, md, mn, my⟩, sr, n⟩ = 1 := if_pos hq
      rw [hq] at hu
      rw [hE]
      by_cases zl : lZ ba = false
      · refine den_of_body k_ref39_Validate ⟨rfl, Nat.le_of_ble_eq_true rfl, thaw_intro ?_⟩
        unfold c_ref39_Validate
        simp only [lt01, lt15, lt21, lt25, lt31, lt35, lt41, lt45, lt51, lt55, p12, p13, p14, p15, q13, q14, e00, fL, fS, fZ, fN, fS2, zl, go_sem]
        simp only [aresult, ares, go_sem]
      have yl : lZ ba = true := by simpa using zl
      by_cases zm : mZ ⟨mk, mp, mw, md, mn, my⟩ = false
      · refine den_of_body k_ref39_Validate ⟨rfl, Nat.le_of_ble_eq_true rfl, thaw_intro ?_⟩
        unfold c_ref39_Validate
        simp only [lt01, lt15, lt21, lt25, lt31, lt35, lt41, lt45, lt51, lt55, p12, p13, p14, p15, q13, q14, e00, fL, fS, fZ, fN, fS2, yl, zm, go_sem]
        simp only [aresult, ares, go_sem]
      have ym : mZ ⟨mk, mp, mw, md, mn, my⟩ = true := by simpa using zm
      by_cases zs : sZ sr = false
      · refine den_of_body k_ref39_Validate ⟨rfl, Nat.le_of_ble_eq_true rfl, thaw_intro ?_⟩
        unfold c_ref39_Validate
        simp only [lt01, lt15, lt21, lt25, lt31, lt35, lt41, lt45, lt51, lt55, p12, p13, p14, p15, q13, q14, e00, fL, fS, fZ, fN, fS2, yl, ym, zs, go_sem]
        simp only [aresult, ares, go_sem]
      have ys : sZ sr = true := by simpa using zs
      by_cases zn : (n == 0) = false
      · refine den_of_body k_ref39_Validate ⟨rfl, Nat.le_of_ble_eq_true rfl, thaw_intro ?_⟩
        unfold c_ref39_Validate
        simp only [lt01, lt15, lt21, lt25, lt31, lt35, lt41, lt45, lt51, lt55, p12, p13, p14, p15, q13, q14, e00, fL, fS, fZ, fN, fS2, yl, ym, ys, zn, go_sem]
        simp only [aresult, ares, go_sem]
      have yn : (n == 0) = true := by simpa using zn
      rw [yl, ym, ys, yn] at hu
      cases hu
    | true =>
      rw [hq] at hu
      have hE : enE ⟨1, ba, ⟨mk, mp, mw, md, mn, my⟩, sr, n⟩ = 0 := by unfold enE; rw [if_neg (by rw [hq]; simp)]; simp
      rw [hE]
      have hu := hu.symm
      simp only [Bool.and_eq_true] at hu
      obtain ⟨⟨⟨ul, um⟩, us⟩, un⟩ := hu
      have n0 : n = 0 := by simpa using un
      subst n0
      have sz := sZ_of us
      have q16 : ¬ (16384 : Int) < (sr.size : Int) := by omega
      have lz := lZ_of ul
      have q32 : ¬ (32 : Int) < (ba.length : Int) := by omega
      refine den_of_body k_ref39_Validate ⟨rfl, Nat.le_of_ble_eq_true rfl, thaw_intro ?_⟩
      unfold c_ref39_Validate
      simp only [lt01, lt15, lt21, lt25, lt31, lt35, lt41, lt45, lt51, lt55, p12, p13, p14, p15, q13, q14, e00, fL, fS, fZ, fN, fS2, ul, um, us, n00, n01, q32, go_sem]
      refine t_loop_intro (fun k : Nat => k ≤ ba.length) (fun k => ba.length - k) 0 [2, 3, 4, 59, 60, 61, 62, 63, 64, 65, 66, 67, 68, 69, 70, 71, 72, 73, 74] (fun k => [(3, .a (.int .i64 k))]) (by omega) (by simp) (fun k => by simp) rfl ?_
      intro k hk fr_ hfr
      simp only [go_sem] at hfr
      subst hfr
      by_cases hlt : k < ba.length
      · omega
      · have h1 : ¬ (k : Int) < (ba.length : Int) := by omega
        simp only [h1, lt01, lt15, lt21, lt25, lt31, lt35, lt41, lt45, lt51, lt55, p12, p13, p14, p15, q13, q14, e00, fL, fS, fZ, fN, fS2, ul, um, us, n00, n01, go_sem]
        refine t_call_intro (hC) ?_
        simp only [cnt0, q16, go_sem]
        simp only [aresult, ares, go_sem]
  have hq : unB ⟨kd, ba, ⟨mk, mp, mw, md, mn, my⟩, sr, n⟩ = false := by unfold unB; simp [k1, k2, k3, k4, k5]
  have hE : enE ⟨kd, ba, ⟨mk, mp, mw, md, mn, my⟩, sr, n⟩ = 1 := if_pos hq
  rw [hE]
  by_cases h1 : kd < 1
  · refine den_of_body k_ref39_Validate ⟨rfl, Nat.le_of_ble_eq_true rfl, thaw_intro ?_⟩
    unfold c_ref39_Validate
    simp only [h1, go_sem]
    simp only [aresult, ares, go_sem]
  · have h5 : 5 < kd := by omega
    refine den_of_body k_ref39_Validate ⟨rfl, Nat.le_of_ble_eq_true rfl, thaw_intro ?_⟩
    unfold c_ref39_Validate
    simp only [h1, h5, go_sem]
    simp only [aresult, ares, go_sem]

end Go.Proofs.Ytpnihinmlmoogaa

/- Entries: bytes. -/
namespace Go.Proofs.Ytpnihinmlmoogaa
open Go Ab Go.RowKit
attribute [local irreducible] awp aops aop asoft aeff aloop acall acallI acallT
attribute [local go_sem] Vl.row sRow

def five (m : Mk) : List Int := [m.k, m.p, m.w, m.d, m.n]
def mkH (m : Mk) (k : Nat) : ByteArray := ((five m).take k).foldl (fun acc x => acc ++ vintB x.toNat) (vintB 3)
theorem mkH_zero (m : Mk) : mkH m 0 = vintB 3 := rfl
theorem mkH_step (m : Mk) (k : Nat) (h : k < (five m).length) : mkH m (k + 1) = mkH m k ++ vintB ((five m)[k]).toNat := by
  unfold mkH
  rw [List.take_succ_eq_append_getElem h, List.foldl_append]; rfl
def enS (e : En) : ByteArray :=
  if e.kd = 2 then vintB 2 ++ encReqs e.ba else if e.kd = 3 then mkH e.m 5 ++ textB e.m.y else if e.kd = 4 then vintB 4 ++ textB e.sr else if e.kd = 5 then vintB 5 ++ vintB e.n.toNat else vintB e.kd.toNat
def encE (e : En) : ByteArray × Int := if enE e ≠ 0 then (⟨#[]⟩, enE e) else if 4096 < (enS e).size then (⟨#[]⟩, 2) else (enS e, 0)
def encEV (x : ByteArray × Int) : AV := .tup [.a (.str x.1), .a (.int .i64 x.2)]
theorem encReqs_size (l : List Req) (hf : ∀ r ∈ l, r.fit) : (encReqs l).size ≤ 12800010 := by
  unfold encReqs
  split
  · exact Nat.zero_le _
  · split
    · have h := encH_size l (by omega) hf l.length (Nat.le_refl _)
      omega
    · exact Nat.zero_le _
structure Mk.ok (m : Mk) : Prop where
  k : 1 ≤ m.k ∧ m.k ≤ 4
  p : 0 ≤ m.p ∧ m.p ≤ 1099511627776
  w : 0 ≤ m.w ∧ m.w ≤ 1099511627776
  d : 0 ≤ m.d ∧ m.d ≤ 1099511627776
  n : 0 ≤ m.n ∧ m.n ≤ 1099511627776
  y : boundV m.y = true
theorem mkV_ok (m : Mk) : mkV m = true ↔ m.ok := by
  unfold mkV cntB
  simp only [Bool.and_eq_true, decide_eq_true_eq]
  exact ⟨fun ⟨⟨⟨⟨⟨⟨a, b⟩, c⟩, d⟩, e⟩, f⟩, g⟩ => ⟨⟨a, b⟩, c, d, e, f, g⟩, fun ⟨⟨a, b⟩, c, d, e, f, g⟩ => ⟨⟨⟨⟨⟨⟨a, b⟩, c⟩, d⟩, e⟩, f⟩, g⟩⟩
theorem bound_size {s : ByteArray} (h : boundV s = true) : s.size ≤ 24 := by
  unfold boundV bytesOk at h
  simp only [Bool.and_eq_true, decide_eq_true_eq] at h
  exact h.1
theorem Mk.ok.five {m : Mk} (h : m.ok) : ∀ x ∈ five m, 0 ≤ x ∧ x ≤ 1099511627776 := by
  intro x hx
  simp only [Proofs.Ytpnihinmlmoogaa.five, List.mem_cons, List.not_mem_nil, or_false] at hx
  have := h.k; have := h.p; have := h.w; have := h.d; have := h.n
  rcases hx with rfl | rfl | rfl | rfl | rfl <;> omega
theorem vint_small (x : Nat) (h : x ≤ 1099511627776) : (vintB x).size ≤ 10 := vintB_size x (by rw [Cw.m64]; omega)
theorem mkH_size (m : Mk) (h : m.ok) : ∀ k, k ≤ 5 → (mkH m k).size ≤ 10 + k * 10
  | 0, _ => by rw [mkH_zero]; exact vint_small 3 (by omega)
  | k + 1, hk => by
    have ih := mkH_size m h k (by omega)
    have hl : k < (five m).length := by show k < 5; omega
    have hx := h.five _ (List.getElem_mem hl)
    have := vint_small ((five m)[k]).toNat (by omega)
    rw [mkH_step m k hl, ByteArray.size_append]; omega
theorem enE_mk {e : En} (h : enE e = 0) (hk : e.kd = 3) : e.m.ok := by
  unfold enE at h
  split at h
  · cases h
  · have h : (if mkV e.m = true then (0 : Int) else 1) = 0 := by simpa [hk] using h
    split at h
    · rename_i hm; exact (mkV_ok _).1 hm
    · cases h
theorem enE_n {e : En} (h : enE e = 0) (hk : e.kd = 5) : 0 ≤ e.n ∧ e.n ≤ 1099511627776 := by
  unfold enE at h
  split at h
  · cases h
  · have h : (if cntB e.n = true then (0 : Int) else 1) = 0 := by simpa [hk] using h
    split at h
    · rename_i hm; simpa [cntB] using hm
    · cases h
theorem enE_sr {e : En} (h : enE e = 0) (hk : e.kd = 4) : e.sr.size ≤ 16384 ∧ sZ e.sr = false := by
  unfold enE at h
  split at h
  · cases h
  · have h : (if sZ e.sr = true then (1 : Int) else if 16384 < e.sr.size then 2 else 0) = 0 := by simpa [hk] using h
    split at h
    · cases h
    · rename_i hs
      split at h
      · cases h
      · exact ⟨by omega, by simpa using hs⟩
theorem enE_kd {e : En} (h : enE e = 0) : 1 ≤ e.kd ∧ e.kd ≤ 5 := by
  have hu : unB e = true := by
    unfold enE at h
    split at h
    · cases h
    · rename_i hu; simpa using hu
  unfold unB at hu
  split at hu
  · omega
  · split at hu
    · omega
    · split at hu
      · omega
      · split at hu
        · omega
        · split at hu
          · omega
          · cases hu

theorem c5 : ((5 : Nat) : Int) = 5 := rfl
set_option maxRecDepth 100000 in
set_option maxHeartbeats 4000000 in
theorem encE_den (e : En) (h : e.fit) : PDen Try.prog 11 [.agg e.row] (encEV (encE e)) := by
  have hV := valid_den e h
  have hall0 := h.all
  have hlen := h.ba
  have hy := h.y
  unfold encE encEV
  by_cases h0 : enE e = 0
  rotate_left
  · have n0 : (enE e != 0) = true := by simpa using h0
    rw [if_pos h0]
    unfold En.row at hV ⊢
    refine den_of_body k_entry_Encode ⟨rfl, Nat.le_of_ble_eq_true rfl, thaw_intro ?_⟩
    unfold c_entry_Encode
    simp only [go_sem]
    refine t_call_intro (hV) ?_
    simp only [n0, go_sem]
    simp only [aresult, ares, go_sem]
  rw [if_neg (by simpa using h0)]
  have hkd := enE_kd h0
  have hmk := @enE_mk e h0
  have hn := @enE_n e h0
  have hsr := @enE_sr e h0
  rw [h0] at hV
  obtain ⟨kd, ba, m, sr, n⟩ := e
  simp only at hall0 hlen hy hkd hmk hn hsr
  have hu := wuint_den kd (by omega) (by rw [Cw.m64]; omega)
  have wk : IntKind.u64.wrap kd = kd := u64_small kd (by omega) (by omega)
  have z1 := vint_small kd.toNat (by omega)
  unfold En.row at hV ⊢
  simp only [] at hV ⊢
  by_cases k2 : kd = 2
  · subst k2
    have hS : enS ⟨2, ba, m, sr, n⟩ = vintB 2 ++ encReqs ba := by unfold enS; simp
    have hb := encReqs_den ba (by omega) hall0
    have z2 := encReqs_size ba hall0
    have z1 : (vintB 2).size ≤ 10 := z1
    rw [hS]
    refine den_of_body k_entry_Encode ⟨rfl, Nat.le_of_ble_eq_true rfl, thaw_intro ?_⟩
    unfold c_entry_Encode
    simp only [go_sem]
    refine t_call_intro (hV) ?_
    simp only [z00, wk, go_sem]
    refine t_call_intro (hu) ?_
    simp only [q22, go_sem]
    refine t_call_intro (hb) ?_
    simp only [go_sem]
    refine t_gate_intro (by first | omega | (simp; omega)) ?_
    simp only [go_sem]
    by_cases hbig : 4096 < (vintB 2).size + (encReqs ba).size
    · have qb : (4096 : Int) < (((vintB 2).size + (encReqs ba).size : Nat) : Int) := by omega
      rw [if_pos hbig]
      simp only [qb, go_sem]
      simp only [aresult, ares, go_sem]
    · have qb : ¬ (4096 : Int) < (((vintB 2).size + (encReqs ba).size : Nat) : Int) := by omega
      rw [if_neg hbig]
      simp only [qb, go_sem]
      simp only [aresult, ares, go_sem]
  by_cases k3 : kd = 3
  · subst k3
    have hm := hmk rfl
    have hS : enS ⟨3, ba, m, sr, n⟩ = mkH m 5 ++ textB m.y := by unfold enS; simp
    have zH := mkH_size m hm
    have hyz := bound_size hm.y
    have zy := textB_size m.y (by omega)
    have hf5 := hm.five
    have ht := wtext_den m.y (by omega)
    obtain ⟨mk, mp, mw, md, mn, my⟩ := m
    simp only at ht zy hyz hV ⊢
    rw [hS]
    refine den_of_body k_entry_Encode ⟨rfl, Nat.le_of_ble_eq_true rfl, thaw_intro ?_⟩
    unfold c_entry_Encode
    simp only [go_sem]
    refine t_call_intro (hV) ?_
    simp only [z00, wk, go_sem]
    refine t_call_intro (hu) ?_
    simp only [q32, q33, go_sem]
    refine t_loop_intro (fun k : Nat => k ≤ 5) (fun k => 5 - k) 0 [5, 8, 49, 50, 51, 52, 53, 54, 55, 56, 57, 58] (fun k => [(5, .a (.str (mkH ⟨mk, mp, mw, md, mn, my⟩ k))), (49, .a (.int .i64 k))]) (by omega) (by first | (simp; done) | simp [mkH_zero]) (fun k => by simp) rfl ?_
    intro k hk fr_ hfr
    simp only [go_sem] at hfr
    subst hfr
    by_cases hlt : k < 5
    · have h1 : (k : Int) < 5 := by omega
      have ew := wrap1 k 5 hlt (by omega)
      have hlt' : k < [mk, mp, mw, md, mn].length := hlt
      have e := getD_map (fun x => [Atom.int .i64 x]) [mk, mp, mw, md, mn] k hlt'
      simp only [List.map_cons, List.map_nil] at e
      have es := mkH_step ⟨mk, mp, mw, md, mn, my⟩ k hlt'
      have hx := hf5 _ (List.getElem_mem (l := five ⟨mk, mp, mw, md, mn, my⟩) hlt')
      have es : mkH ⟨mk, mp, mw, md, mn, my⟩ (k + 1) = mkH ⟨mk, mp, mw, md, mn, my⟩ k ++ vintB ([mk, mp, mw, md, mn][k]).toNat := es
      have hx : 0 ≤ [mk, mp, mw, md, mn][k] ∧ [mk, mp, mw, md, mn][k] ≤ 1099511627776 := hx
      have zk := zH k (by omega)
      generalize [mk, mp, mw, md, mn][k] = x at e es hx
      have wx := u64_small x (by omega) (by omega)
      have zx := vint_small x.toNat (by omega)
      simp only [c5, h1, e, wx, go_sem]
      refine t_call_intro (wuint_den x (by omega) (by rw [Cw.m64]; omega)) ?_
      simp only [go_sem]
      refine t_gate_intro (by first | omega | (simp; omega)) ?_
      simp only [ew, go_sem]
      refine t_round (k + 1) (by omega) (by omega) (by first | (simp; done) | simp [es]) rfl rfl (by simp) rfl
    · have hke : k = 5 := by omega
      subst hke
      have h1 : ¬ (5 : Int) < 5 := by omega
      have zk := zH 5 (by omega)
      simp only [c5, h1, go_sem]
      refine t_call_intro (ht) ?_
      simp only [go_sem]
      refine t_gate_intro (by first | omega | (simp; omega)) ?_
      simp only [go_sem]
      by_cases hbig : 4096 < (mkH ⟨mk, mp, mw, md, mn, my⟩ 5).size + (textB my).size
      · have qb : (4096 : Int) < (((mkH ⟨mk, mp, mw, md, mn, my⟩ 5).size + (textB my).size : Nat) : Int) := by omega
        rw [if_pos hbig]
        simp only [qb, go_sem]
        simp only [aresult, ares, go_sem]
      · have qb : ¬ (4096 : Int) < (((mkH ⟨mk, mp, mw, md, mn, my⟩ 5).size + (textB my).size : Nat) : Int) := by omega
        rw [if_neg hbig]
        simp only [qb, go_sem]
        simp only [aresult, ares, go_sem]
  by_cases k4 : kd = 4
  · subst k4
    have hS : enS ⟨4, ba, m, sr, n⟩ = vintB 4 ++ textB sr := by unfold enS; simp
    have zs := (hsr rfl).1
    have ht := wtext_den sr (by omega)
    have z2 := textB_size sr (by omega)
    have z1 : (vintB 4).size ≤ 10 := z1
    rw [hS]
    refine den_of_body k_entry_Encode ⟨rfl, Nat.le_of_ble_eq_true rfl, thaw_intro ?_⟩
    unfold c_entry_Encode
    simp only [go_sem]
    refine t_call_intro (hV) ?_
    simp only [z00, wk, go_sem]
    refine t_call_intro (hu) ?_
    simp only [q42, q43, q44, go_sem]
    refine t_call_intro (ht) ?_
    simp only [go_sem]
    refine t_gate_intro (by first | omega | (simp; omega)) ?_
    simp only [go_sem]
    by_cases hbig : 4096 < (vintB 4).size + (textB sr).size
    · have qb : (4096 : Int) < (((vintB 4).size + (textB sr).size : Nat) : Int) := by omega
      rw [if_pos hbig]
      simp only [qb, go_sem]
      simp only [aresult, ares, go_sem]
    · have qb : ¬ (4096 : Int) < (((vintB 4).size + (textB sr).size : Nat) : Int) := by omega
      rw [if_neg hbig]
      simp only [qb, go_sem]
      simp only [aresult, ares, go_sem]
  by_cases k5 : kd = 5
  · subst k5
    have hS : enS ⟨5, ba, m, sr, n⟩ = vintB 5 ++ vintB n.toNat := by unfold enS; simp
    have hn := hn rfl
    have ht := wuint_den n (by omega) (by rw [Cw.m64]; omega)
    have wn := u64_small n (by omega) (by omega)
    have z2 := vint_small n.toNat (by omega)
    have z1 : (vintB 5).size ≤ 10 := z1
    have zz : (vintB 5 ++ vintB n.toNat).size ≤ 20 := by rw [ByteArray.size_append]; omega
    rw [hS]
    refine den_of_body k_entry_Encode ⟨rfl, Nat.le_of_ble_eq_true rfl, thaw_intro ?_⟩
    unfold c_entry_Encode
    simp only [go_sem]
    refine t_call_intro (hV) ?_
    simp only [z00, wk, go_sem]
    refine t_call_intro (hu) ?_
    simp only [q52, q53, q54, q55, wn, go_sem]
    refine t_call_intro (ht) ?_
    simp only [go_sem]
    refine t_gate_intro (by first | omega | (simp; omega)) ?_
    simp only [go_sem]
    rw [if_neg (by omega)]
    simp only [aresult, ares, go_sem]
  have k1 : kd = 1 := by omega
  subst k1
  have hS : enS ⟨1, ba, m, sr, n⟩ = vintB 1 := by unfold enS; simp
  have z1 : (vintB 1).size ≤ 10 := z1
  rw [hS]
  refine den_of_body k_entry_Encode ⟨rfl, Nat.le_of_ble_eq_true rfl, thaw_intro ?_⟩
  unfold c_entry_Encode
  simp only [go_sem]
  refine t_call_intro (hV) ?_
  simp only [z00, wk, go_sem]
  refine t_call_intro (hu) ?_
  simp only [q12, q13, q14, q15, q11, go_sem]
  rw [if_neg (by omega)]
  simp only [aresult, ares, go_sem]

set_option maxRecDepth 100000 in
set_option maxHeartbeats 4000000 in
theorem rencE_den (e : En) (h : e.fit) : PDen Try.prog 21 [.agg e.row] (encEV (encE e)) := by
  have hV := rvalid_den e h
  have hall0 := h.all
  have hlen := h.ba
  have hy := h.y
  unfold encE encEV
  by_cases h0 : enE e = 0
  rotate_left
  · have n0 : (enE e != 0) = true := by simpa using h0
    rw [if_pos h0]
    unfold En.row at hV ⊢
    refine den_of_body k_ref39_Encode ⟨rfl, Nat.le_of_ble_eq_true rfl, thaw_intro ?_⟩
    unfold c_ref39_Encode
    simp only [go_sem]
    refine t_call_intro (hV) ?_
    simp only [n0, go_sem]
    simp only [aresult, ares, go_sem]
  rw [if_neg (by simpa using h0)]
  have hkd := enE_kd h0
  have hmk := @enE_mk e h0
  have hn := @enE_n e h0
  have hsr := @enE_sr e h0
  rw [h0] at hV
  obtain ⟨kd, ba, m, sr, n⟩ := e
  simp only at hall0 hlen hy hkd hmk hn hsr
  have hu := ruint_den kd (by omega) (by rw [Cw.m64]; omega)
  have wk : IntKind.u64.wrap kd = kd := u64_small kd (by omega) (by omega)
  have z1 := vint_small kd.toNat (by omega)
  unfold En.row at hV ⊢
  simp only [] at hV ⊢
  by_cases k2 : kd = 2
  · subst k2
    have hS : enS ⟨2, ba, m, sr, n⟩ = vintB 2 ++ encReqs ba := by unfold enS; simp
    have hb := rencReqs_den ba (by omega) hall0
    have z2 := encReqs_size ba hall0
    have z1 : (vintB 2).size ≤ 10 := z1
    rw [hS]
    refine den_of_body k_ref39_Encode ⟨rfl, Nat.le_of_ble_eq_true rfl, thaw_intro ?_⟩
    unfold c_ref39_Encode
    simp only [go_sem]
    refine t_call_intro (hV) ?_
    simp only [z00, wk, go_sem]
    refine t_call_intro (hu) ?_
    simp only [q22, go_sem]
    refine t_call_intro (hb) ?_
    simp only [go_sem]
    refine t_gate_intro (by first | omega | (simp; omega)) ?_
    simp only [go_sem]
    by_cases hbig : 4096 < (vintB 2).size + (encReqs ba).size
    · have qb : (4096 : Int) < (((vintB 2).size + (encReqs ba).size : Nat) : Int) := by omega
      rw [if_pos hbig]
      simp only [qb, go_sem]
      simp only [aresult, ares, go_sem]
    · have qb : ¬ (4096 : Int) < (((vintB 2).size + (encReqs ba).size : Nat) : Int) := by omega
      rw [if_neg hbig]
      simp only [qb, go_sem]
      simp only [aresult, ares, go_sem]
  by_cases k3 : kd = 3
  · subst k3
    have hm := hmk rfl
    have hS : enS ⟨3, ba, m, sr, n⟩ = mkH m 5 ++ textB m.y := by unfold enS; simp
    have zH := mkH_size m hm
    have hyz := bound_size hm.y
    have zy := textB_size m.y (by omega)
    have hf5 := hm.five
    have ht := rtext_den m.y (by omega)
    obtain ⟨mk, mp, mw, md, mn, my⟩ := m
    simp only at ht zy hyz hV ⊢
    rw [hS]
    refine den_of_body k_ref39_Encode ⟨rfl, Nat.le_of_ble_eq_true rfl, thaw_intro ?_⟩
    unfold c_ref39_Encode
    simp only [go_sem]
    refine t_call_intro (hV) ?_
    simp only [z00, wk, go_sem]
    refine t_call_intro (hu) ?_
    simp only [q32, q33, go_sem]
    have mem : ∀ i (hi : i < (five ⟨mk, mp, mw, md, mn, my⟩).length), 0 ≤ (five ⟨mk, mp, mw, md, mn, my⟩)[i] ∧ (five ⟨mk, mp, mw, md, mn, my⟩)[i] ≤ 1099511627776 := fun i hi => hf5 _ (List.getElem_mem hi)
    have hmk : 0 ≤ mk ∧ mk ≤ 1099511627776 := mem 0 (by show 0 < 5; omega)
    have wmk := u64_small mk (by omega) (by omega)
    have zmk := vint_small mk.toNat (by omega)
    have hmp : 0 ≤ mp ∧ mp ≤ 1099511627776 := mem 1 (by show 1 < 5; omega)
    have wmp := u64_small mp (by omega) (by omega)
    have zmp := vint_small mp.toNat (by omega)
    have hmw : 0 ≤ mw ∧ mw ≤ 1099511627776 := mem 2 (by show 2 < 5; omega)
    have wmw := u64_small mw (by omega) (by omega)
    have zmw := vint_small mw.toNat (by omega)
    have hmd : 0 ≤ md ∧ md ≤ 1099511627776 := mem 3 (by show 3 < 5; omega)
    have wmd := u64_small md (by omega) (by omega)
    have zmd := vint_small md.toNat (by omega)
    have hmn : 0 ≤ mn ∧ mn ≤ 1099511627776 := mem 4 (by show 4 < 5; omega)
    have wmn := u64_small mn (by omega) (by omega)
    have zmn := vint_small mn.toNat (by omega)
    have zk := zH 5 (by omega)
    have e5 : mkH ⟨mk, mp, mw, md, mn, my⟩ 5 = ((((vintB 3 ++ vintB mk.toNat) ++ vintB mp.toNat) ++ vintB mw.toNat) ++ vintB md.toNat) ++ vintB mn.toNat := rfl
    have z3 : (vintB 3).size ≤ 10 := z1
    rw [e5]
    rw [e5] at zk
    simp only [wmk, go_sem]
    refine t_call_intro (ruint_den mk (by omega) (by rw [Cw.m64]; omega)) ?_
    simp only [go_sem]
    refine t_gate_intro (by first | omega | (simp; omega)) ?_
    simp only [wmp, go_sem]
    refine t_call_intro (ruint_den mp (by omega) (by rw [Cw.m64]; omega)) ?_
    simp only [go_sem]
    refine t_gate_intro (by first | omega | (simp; omega)) ?_
    simp only [wmw, go_sem]
    refine t_call_intro (ruint_den mw (by omega) (by rw [Cw.m64]; omega)) ?_
    simp only [go_sem]
    refine t_gate_intro (by first | omega | (simp; omega)) ?_
    simp only [wmd, go_sem]
    refine t_call_intro (ruint_den md (by omega) (by rw [Cw.m64]; omega)) ?_
    simp only [go_sem]
    refine t_gate_intro (by first | omega | (simp; omega)) ?_
    simp only [wmn, go_sem]
    refine t_call_intro (ruint_den mn (by omega) (by rw [Cw.m64]; omega)) ?_
    simp only [go_sem]
    refine t_gate_intro (by first | omega | (simp; omega)) ?_
    simp only [go_sem]
    refine t_call_intro (ht) ?_
    simp only [go_sem]
    refine t_gate_intro (by first | omega | (simp; omega)) ?_
    simp only [go_sem]
    by_cases hbig : 4096 < (vintB 3).size + (vintB mk.toNat).size + (vintB mp.toNat).size + (vintB mw.toNat).size + (vintB md.toNat).size + (vintB mn.toNat).size + (textB my).size
    · have qb : (4096 : Int) < (((vintB 3).size + (vintB mk.toNat).size + (vintB mp.toNat).size + (vintB mw.toNat).size + (vintB md.toNat).size + (vintB mn.toNat).size + (textB my).size : Nat) : Int) := by omega
      rw [if_pos hbig]
      simp only [qb, go_sem]
      simp only [aresult, ares, go_sem]
    · have qb : ¬ (4096 : Int) < (((vintB 3).size + (vintB mk.toNat).size + (vintB mp.toNat).size + (vintB mw.toNat).size + (vintB md.toNat).size + (vintB mn.toNat).size + (textB my).size : Nat) : Int) := by omega
      rw [if_neg hbig]
      simp only [qb, go_sem]
      simp only [aresult, ares, go_sem]
  by_cases k4 : kd = 4
  · subst k4
    have hS : enS ⟨4, ba, m, sr, n⟩ = vintB 4 ++ textB sr := by unfold enS; simp
    have zs := (hsr rfl).1
    have ht := rtext_den sr (by omega)
    have z2 := textB_size sr (by omega)
    have z1 : (vintB 4).size ≤ 10 := z1
    rw [hS]
    refine den_of_body k_ref39_Encode ⟨rfl, Nat.le_of_ble_eq_true rfl, thaw_intro ?_⟩
    unfold c_ref39_Encode
    simp only [go_sem]
    refine t_call_intro (hV) ?_
    simp only [z00, wk, go_sem]
    refine t_call_intro (hu) ?_
    simp only [q42, q43, q44, go_sem]
    refine t_call_intro (ht) ?_
    simp only [go_sem]
    refine t_gate_intro (by first | omega | (simp; omega)) ?_
    simp only [go_sem]
    by_cases hbig : 4096 < (vintB 4).size + (textB sr).size
    · have qb : (4096 : Int) < (((vintB 4).size + (textB sr).size : Nat) : Int) := by omega
      rw [if_pos hbig]
      simp only [qb, go_sem]
      simp only [aresult, ares, go_sem]
    · have qb : ¬ (4096 : Int) < (((vintB 4).size + (textB sr).size : Nat) : Int) := by omega
      rw [if_neg hbig]
      simp only [qb, go_sem]
      simp only [aresult, ares, go_sem]
  by_cases k5 : kd = 5
  · subst k5
    have hS : enS ⟨5, ba, m, sr, n⟩ = vintB 5 ++ vintB n.toNat := by unfold enS; simp
    have hn := hn rfl
    have ht := ruint_den n (by omega) (by rw [Cw.m64]; omega)
    have wn := u64_small n (by omega) (by omega)
    have z2 := vint_small n.toNat (by omega)
    have z1 : (vintB 5).size ≤ 10 := z1
    have zz : (vintB 5 ++ vintB n.toNat).size ≤ 20 := by rw [ByteArray.size_append]; omega
    rw [hS]
    refine den_of_body k_ref39_Encode ⟨rfl, Nat.le_of_ble_eq_true rfl, thaw_intro ?_⟩
    unfold c_ref39_Encode
    simp only [go_sem]
    refine t_call_intro (hV) ?_
    simp only [z00, wk, go_sem]
    refine t_call_intro (hu) ?_
    simp only [q52, q53, q54, q55, wn, go_sem]
    refine t_call_intro (ht) ?_
    simp only [go_sem]
    refine t_gate_intro (by first | omega | (simp; omega)) ?_
    simp only [go_sem]
    by_cases hbig : 4096 < (vintB 5).size + (vintB n.toNat).size
    · have qb : (4096 : Int) < (((vintB 5).size + (vintB n.toNat).size : Nat) : Int) := by omega
      rw [if_pos hbig]
      simp only [qb, go_sem]
      simp only [aresult, ares, go_sem]
    · have qb : ¬ (4096 : Int) < (((vintB 5).size + (vintB n.toNat).size : Nat) : Int) := by omega
      rw [if_neg hbig]
      simp only [qb, go_sem]
      simp only [aresult, ares, go_sem]
  have k1 : kd = 1 := by omega
  subst k1
  have hS : enS ⟨1, ba, m, sr, n⟩ = vintB 1 := by unfold enS; simp
  have z1 : (vintB 1).size ≤ 10 := z1
  rw [hS]
  refine den_of_body k_ref39_Encode ⟨rfl, Nat.le_of_ble_eq_true rfl, thaw_intro ?_⟩
  unfold c_ref39_Encode
  simp only [go_sem]
  refine t_call_intro (hV) ?_
  simp only [z00, wk, go_sem]
  refine t_call_intro (hu) ?_
  simp only [q12, q13, q14, q15, q11, go_sem]
  by_cases hbig : 4096 < (vintB 1).size
  · have qb : (4096 : Int) < (((vintB 1).size : Nat) : Int) := by omega
    rw [if_pos hbig]
    simp only [qb, go_sem]
    simp only [aresult, ares, go_sem]
  · have qb : ¬ (4096 : Int) < (((vintB 1).size : Nat) : Int) := by omega
    rw [if_neg hbig]
    simp only [qb, go_sem]
    simp only [aresult, ares, go_sem]

end Go.Proofs.Ytpnihinmlmoogaa

/- Entries: what is read out of bytes. -/
namespace Go.Proofs.Ytpnihinmlmoogaa
open Go Ab Go.RowKit
attribute [local irreducible] awp aops aop asoft aeff aloop acall acallI acallT acallK
attribute [local go_sem] Vl.row sRow

def big40 (u : Nat) : Bool := decide (1099511627776 < u)
def lim (u : Nat) : Int := if 1099511627776 < u then 0 else (u : Int)
def nmS (l : List UInt8) (a : Int) : Nat → Nat × Int × Int
  | 0 => (0, a, 0)
  | k + 1 => rdU l (nmS l a k).2.1 (nmS l a k).2.2
def mkT (l : List UInt8) (a : Int) := rdT l 24 (nmS l a 5).2.1 (nmS l a 5).2.2
def mkX (l : List UInt8) (a : Int) : Mk := ⟨lim (nmS l a 1).1, lim (nmS l a 2).1, lim (nmS l a 3).1, lim (nmS l a 4).1, lim (nmS l a 5).1, ⟨(mkT l a).1.toArray⟩⟩
def mkBig (l : List UInt8) (a : Int) : Bool := big40 (nmS l a 1).1 || big40 (nmS l a 2).1 || big40 (nmS l a 3).1 || big40 (nmS l a 4).1 || big40 (nmS l a 5).1
def m0 : Mk := ⟨0, 0, 0, 0, 0, ⟨#[]⟩⟩
def en0 : En := ⟨0, [], m0, ⟨#[]⟩, 0⟩
def restE (kd : Int) (l : List UInt8) (a : Int) : En × Int × Int × Bool :=
  if kd = 2 then (⟨kd, (decReqs l a).1, m0, ⟨#[]⟩, 0⟩, (decReqs l a).2.1, (decReqs l a).2.2, false)
  else if kd = 3 then (⟨kd, [], mkX l a, ⟨#[]⟩, 0⟩, (mkT l a).2.1, (mkT l a).2.2, mkBig l a)
  else if kd = 4 then (⟨kd, [], m0, ⟨(Cw.takeT l a 16384).1.toArray⟩, 0⟩, (Cw.takeT l a 16384).2.1, (Cw.takeT l a 16384).2.2, false)
  else if kd = 5 then (⟨kd, [], m0, ⟨#[]⟩, lim (Cw.takeU l a).1⟩, (Cw.takeU l a).2.1, (Cw.takeU l a).2.2, big40 (Cw.takeU l a).1)
  else (⟨kd, [], m0, ⟨#[]⟩, 0⟩, a, 0, false)
def decE (l : List UInt8) : En × Int :=
  if 4096 < l.length then (en0, 2) else if (Cw.takeU l 0).2.2 ≠ 0 then (en0, (Cw.takeU l 0).2.2) else if (Cw.takeU l 0).1 < 1 ∨ 5 < (Cw.takeU l 0).1 then (en0, 5)
  else if (restE (Cw.takeU l 0).1 l (Cw.takeU l 0).2.1).2.2.1 ≠ 0 then (en0, (restE (Cw.takeU l 0).1 l (Cw.takeU l 0).2.1).2.2.1)
  else if (restE (Cw.takeU l 0).1 l (Cw.takeU l 0).2.1).2.1 ≠ l.length ∨ (restE (Cw.takeU l 0).1 l (Cw.takeU l 0).2.1).2.2.2 = true then (en0, 5)
  else if enE (restE (Cw.takeU l 0).1 l (Cw.takeU l 0).2.1).1 ≠ 0 then (en0, enE (restE (Cw.takeU l 0).1 l (Cw.takeU l 0).2.1).1)
  else ((restE (Cw.takeU l 0).1 l (Cw.takeU l 0).2.1).1, 0)
def decEV (x : En × Int) : AV := .tup [.agg x.1.row, .a (.int .i64 x.2)]
def rdq (s : ByteArray) (a e : Int) (b : Bool) : List AV := [.a (.str s), .a (.int .i64 a), .a (.int .i64 e), .a (.bool b)]
theorem rdq_bound {h0 : List AV} {hs : List (List AV)} {O : List OwnD} (s : ByteArray) (a e : Int) (b : Bool) (hb : (h0 :: hs).all (·.all (Ab.boundV (hs.length + 2) O.length)) = true) :
    (h0 :: rdq s a e b :: hs).all (·.all (Ab.boundV (h0 :: rdq s a e b :: hs).length O.length)) = true := by
  simp only [List.all_cons, Bool.and_eq_true] at hb
  simp only [List.all_cons, List.length_cons, Bool.and_eq_true]
  exact ⟨hb.1, rfl, hb.2⟩
variable {h0 : List AV} {hs : List (List AV)} {O : List OwnD}

set_option maxRecDepth 100000 in
set_option maxHeartbeats 4000000 in
theorem enumber_iden (s : ByteArray) (a e : Int) (b : Bool) (hs0 : s.size ≤ 1073741824) (hb : (h0 :: hs).all (·.all (Ab.boundV (hs.length + 2) O.length)) = true) :
    IDen Try.prog 51 [.loc 1 0] (h0 :: rdq s a e b :: hs) O (.a (.int .i64 (lim (rdU s.data.toList a e).1))) (h0 :: rdq s (rdU s.data.toList a e).2.1 (rdU s.data.toList a e).2.2 (b || big40 (rdU s.data.toList a e).1) :: hs) O true := by
  refine iden_of_bodyK rfl k_entry_reader_number ⟨rfl, Nat.le_of_ble_eq_true rfl, ⟨by simp, (rdq_bound s _ _ _ hb), rfl⟩, thaw_intro ?_⟩
  unfold c_entry_reader_number
  by_cases he : e = 0
  · subst he
    rw [rdU_ok]
    unfold rdq
    simp only [z00, go_sem]
    refine t_call_intro (wtakeuint_den s a hs0) ?_
    simp only [takeUV, go_sem]
    by_cases hu : 1099511627776 < (Cw.takeU s.data.toList a).1
    · have q : (1099511627776 : Int) < ((Cw.takeU s.data.toList a).1 : Int) := by omega
      have e1 : big40 (Cw.takeU s.data.toList a).1 = true := by simp [big40, hu]
      have e2 : lim (Cw.takeU s.data.toList a).1 = 0 := if_pos hu
      simp only [q, e1, e2, Bool.or_true, go_sem]
      exact ⟨by first | rfl | (simp only [aresultI, aresI, aggI, go_sem]; done) | (simp only [aresultI, aresI, aggI, go_sem]; rfl), by simp⟩
    · have q : ¬ (1099511627776 : Int) < ((Cw.takeU s.data.toList a).1 : Int) := by omega
      have e1 : big40 (Cw.takeU s.data.toList a).1 = false := by simp [big40, hu]
      have e2 : lim (Cw.takeU s.data.toList a).1 = ((Cw.takeU s.data.toList a).1 : Int) := if_neg hu
      have ew : IntKind.i64.wrap ((Cw.takeU s.data.toList a).1 : Int) = ((Cw.takeU s.data.toList a).1 : Int) := by rw [IntKind.wrap_i64]; omega
      simp only [q, e1, e2, ew, Bool.or_false, go_sem]
      exact ⟨by first | rfl | (simp only [aresultI, aresI, aggI, go_sem]; done) | (simp only [aresultI, aresI, aggI, go_sem]; rfl), by simp⟩
  · rw [rdU_err _ _ _ he]
    have h1 : (e != 0) = true := by simpa using he
    have e1 : (b || big40 0) = b := by simp [big40]
    have e2 : lim 0 = 0 := rfl
    unfold rdq
    simp only [h1, e1, e2, go_sem]
    exact ⟨by first | rfl | (simp only [aresultI, aresI, aggI, go_sem]; done) | (simp only [aresultI, aresI, aggI, go_sem]; rfl), by simp⟩

set_option maxRecDepth 100000 in
set_option maxHeartbeats 4000000 in
theorem etext_iden (s : ByteArray) (m a e : Int) (b : Bool) (hs0 : s.size ≤ 1073741824) (hm : m ≤ 9223372036854775807) (hb : (h0 :: hs).all (·.all (Ab.boundV (hs.length + 2) O.length)) = true) :
    IDen Try.prog 52 [.loc 1 0, .a (.int .i64 m)] (h0 :: rdq s a e b :: hs) O (.a (.str ⟨(rdT s.data.toList m a e).1.toArray⟩)) (h0 :: rdq s (rdT s.data.toList m a e).2.1 (rdT s.data.toList m a e).2.2 b :: hs) O true := by
  refine iden_of_bodyK rfl k_entry_reader_text ⟨rfl, Nat.le_of_ble_eq_true rfl, ⟨by simp, (rdq_bound s _ _ _ hb), rfl⟩, thaw_intro ?_⟩
  unfold c_entry_reader_text
  by_cases he : e = 0
  · subst he
    rw [rdT_ok]
    unfold rdq
    simp only [z00, go_sem]
    refine t_call_intro (wtaketext_den s a m hs0 hm) ?_
    simp only [takeTV, go_sem]
    exact ⟨by first | rfl | (simp only [aresultI, aresI, aggI, go_sem]; done) | (simp only [aresultI, aresI, aggI, go_sem]; rfl), by simp⟩
  · rw [rdT_err _ _ _ _ he]
    have h1 : (e != 0) = true := by simpa using he
    unfold rdq
    simp only [h1, go_sem]
    exact ⟨by first | rfl | (simp only [aresultI, aresI, aggI, go_sem]; done) | (simp only [aresultI, aresI, aggI, go_sem]; rfl), by simp⟩
/-- The row of what is read, the empty list of requests as it is. -/
def rowE (e : En) : List Atom := [.int .i64 e.kd, if e.kd = 2 then .slice 8 (e.ba.map Req.row) else .nils, .int .i64 e.m.k, .int .i64 e.m.p, .int .i64 e.m.w, .int .i64 e.m.d, .int .i64 e.m.n, .str e.m.y, .str e.sr, .int .i64 e.n]

def z10 : List AV := [.a (.int .i64 0), .a .nils, .a (.int .i64 0), .a (.int .i64 0), .a (.int .i64 0), .a (.int .i64 0), .a (.int .i64 0), .a (.str ⟨#[]⟩), .a (.str ⟨#[]⟩), .a (.int .i64 0)]
def x10 (kd : Int) : List AV := [.a (.int .i64 kd), .a .nils, .a (.int .i64 0), .a (.int .i64 0), .a (.int .i64 0), .a (.int .i64 0), .a (.int .i64 0), .a (.str ⟨#[]⟩), .a (.str ⟨#[]⟩), .a (.int .i64 0)]
theorem z10_bound {h0 : List AV} {O : List OwnD} {kd : Int} (h : h0.all (Ab.boundV 4 O.length) = true) : [h0, z10, x10 kd].all (·.all (Ab.boundV 4 O.length)) = true := by
  simp only [List.all_cons, List.all_nil, Bool.and_eq_true, Bool.and_true]
  exact ⟨h, rfl, rfl⟩

set_option maxRecDepth 100000 in
set_option maxHeartbeats 4000000 in
theorem contents_iden (kd : Int) (s : ByteArray) (a : Int) (hs0 : s.size ≤ 1073741824) (hb : h0.all (Ab.boundV 2 O.length) = true) :
    IDen Try.prog 28 [.loc 1 0, .a (.int .i64 kd)] [h0, rdq s a 0 false] O (.agg (rowE (restE kd s.data.toList a).1)) [h0, rdq s (restE kd s.data.toList a).2.1 (restE kd s.data.toList a).2.2.1 (restE kd s.data.toList a).2.2.2] O false := by
  have hbl : [h0].all (·.all (Ab.boundV 2 O.length)) = true := by simpa using hb
  have hb4 : [h0].all (·.all (Ab.boundV 4 O.length)) = true := boundL_mono (by omega) (Nat.le_refl _) hbl
  have hb4' : h0.all (Ab.boundV 4 O.length) = true := by simpa using hb4
  generalize hL : s.data.toList = L
  refine iden_of_body k_entry_reader_contents ⟨rfl, Nat.le_of_ble_eq_true rfl, ⟨by simp, (rdq_bound (hs := []) s _ _ _ hbl), rfl⟩, thaw_intro ?_⟩
  unfold c_entry_reader_contents
  unfold restE rowE
  by_cases k2 : kd = 2
  · subst k2
    have hD := decReqs_den s a hs0
    rw [hL] at hD
    unfold decReqsV at hD
    simp only [if_true]
    generalize decReqs L a = X at hD ⊢
    obtain ⟨x, n, e⟩ := X
    simp only [] at hD ⊢
    unfold rdq m0
    simp only [q22, go_sem]
    refine t_call_intro (hD) ?_
    simp only [go_sem]
    first | rfl | (simp only [aresultI, aresI, aggI, go_sem]; done) | (simp only [aresultI, aresI, aggI, go_sem]; rfl)
  have n2 : (kd == 2) = false := by simpa using k2
  by_cases k3 : kd = 3
  · subst k3
    have hN : ∀ (k : Nat) (b : Bool), IDen Try.prog 51 [.loc 1 0] [h0, rdq s (nmS L a k).2.1 (nmS L a k).2.2 b, z10, x10 3] O (.a (.int .i64 (lim (nmS L a (k + 1)).1))) [h0, rdq s (nmS L a (k + 1)).2.1 (nmS L a (k + 1)).2.2 (b || big40 (nmS L a (k + 1)).1), z10, x10 3] O true := fun k b => by
      have := enumber_iden (h0 := h0) (hs := [z10, x10 3]) (O := O) s (nmS L a k).2.1 (nmS L a k).2.2 b hs0 (z10_bound hb4')
      rw [hL] at this; exact this
    have hN0 := hN 0 false
    have hN1 := hN 1
    have hN2 := hN 2
    have hN3 := hN 3
    have hN4 := hN 4
    have hT : ∀ b : Bool, IDen Try.prog 52 [.loc 1 0, .a (.int .i64 24)] [h0, rdq s (nmS L a 5).2.1 (nmS L a 5).2.2 b, z10, [.a (.int .i64 3), .a .nils, .a (.int .i64 (lim (nmS L a 1).1)), .a (.int .i64 (lim (nmS L a 2).1)), .a (.int .i64 (lim (nmS L a 3).1)), .a (.int .i64 (lim (nmS L a 4).1)), .a (.int .i64 (lim (nmS L a 5).1)), .a (.str ⟨#[]⟩), .a (.str ⟨#[]⟩), .a (.int .i64 0)]] O (.a (.str ⟨(mkT L a).1.toArray⟩)) [h0, rdq s (mkT L a).2.1 (mkT L a).2.2 b, z10, [.a (.int .i64 3), .a .nils, .a (.int .i64 (lim (nmS L a 1).1)), .a (.int .i64 (lim (nmS L a 2).1)), .a (.int .i64 (lim (nmS L a 3).1)), .a (.int .i64 (lim (nmS L a 4).1)), .a (.int .i64 (lim (nmS L a 5).1)), .a (.str ⟨#[]⟩), .a (.str ⟨#[]⟩), .a (.int .i64 0)]] O true := fun b => by
      have := etext_iden (h0 := h0) (hs := [z10, [.a (.int .i64 3), .a .nils, .a (.int .i64 (lim (nmS L a 1).1)), .a (.int .i64 (lim (nmS L a 2).1)), .a (.int .i64 (lim (nmS L a 3).1)), .a (.int .i64 (lim (nmS L a 4).1)), .a (.int .i64 (lim (nmS L a 5).1)), .a (.str ⟨#[]⟩), .a (.str ⟨#[]⟩), .a (.int .i64 0)]]) (O := O) s 24 (nmS L a 5).2.1 (nmS L a 5).2.2 b hs0 (by omega) (by
        simp only [List.all_cons, List.all_nil, Bool.and_eq_true, Bool.and_true]
        exact ⟨hb4', rfl, rfl, rfl, rfl, rfl, rfl, rfl, rfl, rfl, rfl, rfl⟩)
      rw [hL] at this; exact this
    simp only [if_neg k2, if_true]
    have eB : mkBig L a = ((((big40 (nmS L a 1).1 || big40 (nmS L a 2).1) || big40 (nmS L a 3).1) || big40 (nmS L a 4).1) || big40 (nmS L a 5).1) := rfl
    rw [eB]
    unfold mkX
    unfold rdq z10 x10 at hN0 hN1 hN2 hN3 hN4
    unfold rdq z10 at hT
    rw [Bool.false_or] at hN0
    simp only [Nat.zero_add, Nat.reduceAdd] at hN0 hN1 hN2 hN3 hN4
    unfold rdq
    simp only []
    simp only [q32, q33, go_sem]
    refine t_callI_intro hN0 ?_
    simp only [go_sem]
    refine t_callI_intro (hN1 _) ?_
    simp only [go_sem]
    refine t_callI_intro (hN2 _) ?_
    simp only [go_sem]
    refine t_callI_intro (hN3 _) ?_
    simp only [go_sem]
    refine t_callI_intro (hN4 _) ?_
    simp only [go_sem]
    refine t_callI_intro (hT _) ?_
    simp only [go_sem]
    first | rfl | (simp only [aresultI, aresI, aggI, go_sem]; done) | (simp only [aresultI, aresI, aggI, go_sem]; rfl)
  have n3 : (kd == 3) = false := by simpa using k3
  by_cases k4 : kd = 4
  · subst k4
    have hT := etext_iden (h0 := h0) (hs := [z10, [.a (.int .i64 4), .a .nils, .a (.int .i64 0), .a (.int .i64 0), .a (.int .i64 0), .a (.int .i64 0), .a (.int .i64 0), .a (.str ⟨#[]⟩), .a (.str ⟨#[]⟩), .a (.int .i64 0)]]) (O := O) s 16384 a 0 false hs0 (by omega) (z10_bound hb4')
    rw [hL, rdT_ok] at hT
    simp only [if_neg k2, if_neg k3, if_true]
    unfold rdq z10 at hT
    unfold rdq m0
    simp only [q42, q43, q44, go_sem]
    refine t_callI_intro hT ?_
    simp only [go_sem]
    first | rfl | (simp only [aresultI, aresI, aggI, go_sem]; done) | (simp only [aresultI, aresI, aggI, go_sem]; rfl)
  have n4 : (kd == 4) = false := by simpa using k4
  by_cases k5 : kd = 5
  · subst k5
    have hT := enumber_iden (h0 := h0) (hs := [z10, [.a (.int .i64 5), .a .nils, .a (.int .i64 0), .a (.int .i64 0), .a (.int .i64 0), .a (.int .i64 0), .a (.int .i64 0), .a (.str ⟨#[]⟩), .a (.str ⟨#[]⟩), .a (.int .i64 0)]]) (O := O) s a 0 false hs0 (z10_bound hb4')
    rw [hL, rdU_ok, Bool.false_or] at hT
    simp only [if_neg k2, if_neg k3, if_neg k4, if_true]
    unfold rdq z10 at hT
    unfold rdq m0
    simp only [q52, q53, q54, q55, go_sem]
    refine t_callI_intro hT ?_
    simp only [go_sem]
    first | rfl | (simp only [aresultI, aresI, aggI, go_sem]; done) | (simp only [aresultI, aresI, aggI, go_sem]; rfl)
  have n5 : (kd == 5) = false := by simpa using k5
  simp only [if_neg k2, if_neg k3, if_neg k4, if_neg k5]
  unfold rdq m0
  simp only [n2, n3, n4, n5, go_sem]
  first | rfl | (simp only [aresultI, aresI, aggI, go_sem]; done) | (simp only [aresultI, aresI, aggI, go_sem]; rfl)

end Go.Proofs.Ytpnihinmlmoogaa

/- Entries: Decode of both. -/
namespace Go.Proofs.Ytpnihinmlmoogaa
open Go Ab Go.RowKit
attribute [local irreducible] awp aops aop asoft aeff aloop acall acallI acallT acallK
attribute [local go_sem] Vl.row sRow

theorem lim_in (u : Nat) : 0 ≤ lim u ∧ lim u ≤ 1099511627776 := by unfold lim; split <;> omega
theorem lim_m (u : Nat) : -Cw.M63 ≤ lim u ∧ lim u < Cw.M63 := by have := lim_in u; rw [Cw.m63]; omega
theorem restE_fit (kd : Int) (l : List UInt8) (a : Int) (hl : l.length ≤ 1073741824) : (restE kd l a).1.fit := by
  have b0 : ([] : List Req).length * 120 ≤ 140737488351232 := Nat.zero_le _
  have n0 : ∀ r ∈ ([] : List Req), r.fit := fun r h => by cases h
  have y0 : m0.y.size ≤ 9223372036854775807 := Nat.zero_le _
  have s0 : (⟨#[]⟩ : ByteArray).size ≤ 9223372036854775807 := Nat.zero_le _
  have k0 : -Cw.M63 ≤ m0.k ∧ m0.k < Cw.M63 := m63_0
  unfold restE
  split
  · exact ⟨by have := decReqs_len l a; simp only; omega, decReqs_fit l a hl, y0, s0, k0, m63_0⟩
  · split
    · refine ⟨b0, n0, ?_, s0, lim_m _, m63_0⟩
      show (⟨(mkT l a).1.toArray⟩ : ByteArray).size ≤ _
      have := rdT_len l 24 (nmS l a 5).2.1 (nmS l a 5).2.2
      rw [bsize]; unfold mkT; omega
    · split
      · refine ⟨b0, n0, y0, ?_, k0, m63_0⟩
        show (⟨(Cw.takeT l a 16384).1.toArray⟩ : ByteArray).size ≤ _
        have := takeT_sz l a 16384
        rw [bsize]; omega
      · split
        · exact ⟨b0, n0, y0, s0, k0, lim_m _⟩
        · exact ⟨b0, n0, y0, s0, k0, m63_0⟩
theorem restE_kd (kd : Int) (l : List UInt8) (a : Int) : (restE kd l a).1.kd = kd ∧ (kd ≠ 2 → (restE kd l a).1.ba = []) := by
  unfold restE
  split
  · rename_i h; exact ⟨rfl, fun hn => absurd h hn⟩
  · split
    · exact ⟨rfl, fun _ => rfl⟩
    · split
      · exact ⟨rfl, fun _ => rfl⟩
      · split <;> exact ⟨rfl, fun _ => rfl⟩
theorem rowE_le (e : En) (h : e.kd ≠ 2 → e.ba = []) : RLs (rowE e) e.row := by
  unfold rowE
  split
  · exact RLs.refl _
  · rename_i hk
    unfold En.row
    rw [h hk]
    exact ⟨RLe.refl _, RLe.nils 8, RLs.refl _⟩
def zRow : List Atom := [.int .i64 0, .nils, .int .i64 0, .int .i64 0, .int .i64 0, .int .i64 0, .int .i64 0, .str ⟨#[]⟩, .str ⟨#[]⟩, .int .i64 0]
theorem zRow_le : RLs zRow en0.row := ⟨RLe.refl _, RLe.nils 8, RLs.refl _⟩
def decEN (l : List UInt8) : AV :=
  if 4096 < l.length then .tup [.agg zRow, .a (.int .i64 2)] else if (Cw.takeU l 0).2.2 ≠ 0 then .tup [.agg zRow, .a (.int .i64 (Cw.takeU l 0).2.2)] else if (Cw.takeU l 0).1 < 1 ∨ 5 < (Cw.takeU l 0).1 then .tup [.agg zRow, .a (.int .i64 5)]
  else if (restE (Cw.takeU l 0).1 l (Cw.takeU l 0).2.1).2.2.1 ≠ 0 then .tup [.agg zRow, .a (.int .i64 (restE (Cw.takeU l 0).1 l (Cw.takeU l 0).2.1).2.2.1)]
  else if (restE (Cw.takeU l 0).1 l (Cw.takeU l 0).2.1).2.1 ≠ l.length ∨ (restE (Cw.takeU l 0).1 l (Cw.takeU l 0).2.1).2.2.2 = true then .tup [.agg zRow, .a (.int .i64 5)]
  else if enE (restE (Cw.takeU l 0).1 l (Cw.takeU l 0).2.1).1 ≠ 0 then .tup [.agg zRow, .a (.int .i64 (enE (restE (Cw.takeU l 0).1 l (Cw.takeU l 0).2.1).1))]
  else .tup [.agg (rowE (restE (Cw.takeU l 0).1 l (Cw.takeU l 0).2.1).1), .a (.int .i64 0)]
theorem decEN_le (l : List UInt8) : VLe (decEN l) (decEV (decE l)) := by
  have z : ∀ x : Int, VLe (.tup [.agg zRow, .a (.int .i64 x)]) (decEV (en0, x)) := fun x => VLe.tup ⟨VLe.agg zRow_le, VLe.refl _, trivial⟩
  unfold decEN decE
  split
  · exact z _
  · split
    · exact z _
    · split
      · exact z _
      · split
        · exact z _
        · split
          · exact z _
          · split
            · exact z _
            · have hk := restE_kd (Cw.takeU l 0).1 l (Cw.takeU l 0).2.1
              exact VLe.tup ⟨VLe.agg (rowE_le _ fun hn => hk.2 (by rw [← hk.1]; exact hn)), VLe.refl _, trivial⟩

set_option maxRecDepth 100000 in
set_option maxHeartbeats 4000000 in
theorem edec_N (s : ByteArray) (hs0 : s.size ≤ 1073741824) : PDen Try.prog 13 [.a (.str s)] (decEN s.data.toList) := by
  have hlen : s.data.toList.length = s.size := dsize s
  unfold decEN
  rw [hlen]
  by_cases h40 : 4096 < s.size
  · have q : (4096 : Int) < (s.size : Int) := by omega
    rw [if_pos h40]
    refine den_of_body k_entry_Decode ⟨rfl, Nat.le_of_ble_eq_true rfl, thaw_intro ?_⟩
    unfold c_entry_Decode
    simp only [q, zRow, go_sem]
    simp only [aresult, ares, go_sem]
  have q40 : ¬ (4096 : Int) < (s.size : Int) := by omega
  rw [if_neg h40]
  have hU := wtakeuint_den s 0 hs0
  have hC0 := fun (kd a : Int) => contents_iden (h0 := z10) (O := []) kd s a hs0 rfl
  have hF0 := fun (kd a : Int) => restE_fit kd s.data.toList a (by omega)
  have hK0 := fun (kd a : Int) => restE_kd kd s.data.toList a
  generalize hL : s.data.toList = L at hU hC0 hF0 hK0 ⊢
  have eU : takeUV L 0 = .tup [.a (.int .u64 (Cw.takeU L 0).1), .a (.int .i64 (Cw.takeU L 0).2.1), .a (.int .i64 (Cw.takeU L 0).2.2)] := rfl
  rw [eU] at hU
  generalize Cw.takeU L 0 = U at hU ⊢
  obtain ⟨kd, a, e⟩ := U
  simp only [] at hU ⊢
  by_cases he : e = 0
  rotate_left
  · have n0 : (e != 0) = true := by simpa using he
    rw [if_pos he]
    refine den_of_body k_entry_Decode ⟨rfl, Nat.le_of_ble_eq_true rfl, thaw_intro ?_⟩
    unfold c_entry_Decode
    simp only [q40, go_sem]
    refine t_call_intro (hU) ?_
    simp only [n0, zRow, go_sem]
    simp only [aresult, ares, go_sem]
  have n0 : (e != 0) = false := by simpa using he
  rw [if_neg (by simpa using he)]
  by_cases hk : kd < 1 ∨ 5 < kd
  · rw [if_pos hk]
    by_cases h1 : (kd : Int) < 1
    · refine den_of_body k_entry_Decode ⟨rfl, Nat.le_of_ble_eq_true rfl, thaw_intro ?_⟩
      unfold c_entry_Decode
      simp only [q40, go_sem]
      refine t_call_intro (hU) ?_
      simp only [n0, h1, zRow, go_sem]
      simp only [aresult, ares, go_sem]
    · have h5 : (5 : Int) < (kd : Int) := by omega
      refine den_of_body k_entry_Decode ⟨rfl, Nat.le_of_ble_eq_true rfl, thaw_intro ?_⟩
      unfold c_entry_Decode
      simp only [q40, go_sem]
      refine t_call_intro (hU) ?_
      simp only [n0, h1, h5, zRow, go_sem]
      simp only [aresult, ares, go_sem]
  rw [if_neg hk]
  have h1 : ¬ (kd : Int) < 1 := by omega
  have h5 : ¬ (5 : Int) < (kd : Int) := by omega
  have ew : IntKind.i64.wrap (kd : Int) = (kd : Int) := by rw [IntKind.wrap_i64]; omega
  have hC := hC0 kd a
  have hF := hF0 kd a
  have hK := hK0 kd a
  have hV : PDen Try.prog 17 [.agg (rowE (restE kd L a).1)] (.a (.int .i64 (enE (restE kd L a).1))) := (valid_den _ hF).args ⟨VLe.agg (rowE_le _ fun hn => hK.2 (by rw [← hK.1]; exact hn)), trivial⟩
  generalize restE kd L a = R at hC hV ⊢
  obtain ⟨x, at2, e2, big⟩ := R
  simp only [] at hC hV ⊢
  have hrow : ∃ B : Atom, rowE x = [.int .i64 x.kd, B, .int .i64 x.m.k, .int .i64 x.m.p, .int .i64 x.m.w, .int .i64 x.m.d, .int .i64 x.m.n, .str x.m.y, .str x.sr, .int .i64 x.n] := ⟨_, rfl⟩
  obtain ⟨B, hrow⟩ := hrow
  rw [hrow] at hC hV ⊢
  unfold z10 rdq at hC
  by_cases he2 : e2 = 0
  rotate_left
  · have n2 : (e2 != 0) = true := by simpa using he2
    rw [if_pos he2]
    refine den_of_body k_entry_Decode ⟨rfl, Nat.le_of_ble_eq_true rfl, thaw_intro ?_⟩
    unfold c_entry_Decode
    simp only [q40, go_sem]
    refine t_call_intro (hU) ?_
    simp only [n0, h1, h5, ew, go_sem]
    refine t_callI_intro hC ?_
    simp only [n2, go_sem]
    refine t_two_intro ?_ ?_
    · simp only [zRow, go_sem]
      simp only [aresult, ares, go_sem]
    · simp only [zRow, go_sem]
      simp only [aresult, ares, go_sem]
  have n2 : (e2 != 0) = false := by simpa using he2
  rw [if_neg (by simpa using he2)]
  by_cases ha : at2 = (s.size : Int)
  rotate_left
  · have n3 : (at2 != (s.size : Int)) = true := by simpa using ha
    rw [if_pos (.inl ha)]
    refine den_of_body k_entry_Decode ⟨rfl, Nat.le_of_ble_eq_true rfl, thaw_intro ?_⟩
    unfold c_entry_Decode
    simp only [q40, go_sem]
    refine t_call_intro (hU) ?_
    simp only [n0, h1, h5, ew, go_sem]
    refine t_callI_intro hC ?_
    simp only [n2, n3, zRow, go_sem]
    simp only [aresult, ares, go_sem]
  have n3 : (at2 != (s.size : Int)) = false := by simpa using ha
  cases big with
  | true =>
    rw [if_pos (.inr rfl)]
    refine den_of_body k_entry_Decode ⟨rfl, Nat.le_of_ble_eq_true rfl, thaw_intro ?_⟩
    unfold c_entry_Decode
    simp only [q40, go_sem]
    refine t_call_intro (hU) ?_
    simp only [n0, h1, h5, ew, go_sem]
    refine t_callI_intro hC ?_
    simp only [n2, n3, zRow, go_sem]
    simp only [aresult, ares, go_sem]
  | false =>
    rw [if_neg (by simp [ha])]
    by_cases hv : enE x = 0
    · have n4 : (enE x != 0) = false := by simpa using hv
      rw [if_neg (by simpa using hv)]
      refine den_of_body k_entry_Decode ⟨rfl, Nat.le_of_ble_eq_true rfl, thaw_intro ?_⟩
      unfold c_entry_Decode
      simp only [q40, go_sem]
      refine t_call_intro (hU) ?_
      simp only [n0, h1, h5, ew, go_sem]
      refine t_callI_intro hC ?_
      simp only [n2, n3, go_sem]
      refine t_call_intro (hV) ?_
      simp only [n4, go_sem]
      simp only [aresult, ares, go_sem]
    · have n4 : (enE x != 0) = true := by simpa using hv
      rw [if_pos hv]
      refine den_of_body k_entry_Decode ⟨rfl, Nat.le_of_ble_eq_true rfl, thaw_intro ?_⟩
      unfold c_entry_Decode
      simp only [q40, go_sem]
      refine t_call_intro (hU) ?_
      simp only [n0, h1, h5, ew, go_sem]
      refine t_callI_intro hC ?_
      simp only [n2, n3, go_sem]
      refine t_call_intro (hV) ?_
      simp only [n4, zRow, go_sem]
      simp only [aresult, ares, go_sem]
theorem edec_den (s : ByteArray) (hs0 : s.size ≤ 1073741824) : PDen Try.prog 13 [.a (.str s)] (decEV (decE s.data.toList)) := (edec_N s hs0).le (decEN_le _)

end Go.Proofs.Ytpnihinmlmoogaa

/- Entries: the reference's Decode. -/
namespace Go.Proofs.Ytpnihinmlmoogaa
open Go Ab Go.RowKit
attribute [local irreducible] awp aops aop asoft aeff aloop acall acallI acallT acallK
attribute [local go_sem] Vl.row sRow

def bigS (l : List UInt8) (a : Int) : Nat → Bool
  | 0 => false
  | k + 1 => bigS l a k || big40 (nmS l a (k + 1)).1
theorem bigS_5 (l : List UInt8) (a : Int) : bigS l a 5 = mkBig l a := by simp [bigS, mkBig]
def uV (l : List UInt8) (a : Int) (k j : Nat) : Int := if j < k then lim (nmS l a (j + 1)).1 else 0
theorem nmS_err (l : List UInt8) (a : Int) (k : Nat) (h : (nmS l a k).2.2 ≠ 0) : ∀ n, k ≤ n → (nmS l a n).2 = (nmS l a k).2
  | n, hn => by
    induction n with
    | zero => rw [show k = 0 by omega]
    | succ n ih =>
      by_cases hk : k = n + 1
      · rw [hk]
      · have ih := ih (by omega)
        show (rdU l (nmS l a n).2.1 (nmS l a n).2.2).2 = _
        rw [rdU_err _ _ _ (by rw [ih]; exact h), ← ih]
def zMk : List Atom := [.int .i64 0, .int .i64 0, .int .i64 0, .int .i64 0, .int .i64 0, .str ⟨#[]⟩]
def mkRV (l : List UInt8) (a : Int) : AV :=
  if (mkT l a).2.2 ≠ 0 then .tup [.agg zMk, .a (.bool false), .a (.int .i64 0), .a (.int .i64 (mkT l a).2.2)]
  else .tup [.agg (mkX l a).row, .a (.bool (!mkBig l a)), .a (.int .i64 (mkT l a).2.1), .a (.int .i64 0)]
theorem mkT_of (l : List UInt8) (a : Int) (k : Nat) (hk : k ≤ 5) (h : (nmS l a k).2.2 ≠ 0) : (mkT l a).2.2 = (nmS l a k).2.2 := by
  have e := nmS_err l a k h 5 hk
  unfold mkT
  rw [e, rdT_err _ _ _ _ h]
theorem limw (u : Nat) : IntKind.i64.wrap (lim u) = lim u := by have := lim_in u; rw [IntKind.wrap_i64]; omega

set_option maxRecDepth 100000 in
set_option maxHeartbeats 4000000 in
theorem takeMarker_den (s : ByteArray) (a : Int) (hs0 : s.size ≤ 1073741824) : PDen Try.prog 72 [.a (.str s), .a (.int .i64 a)] (mkRV s.data.toList a) := by
  have hU := fun a' => rtakeuint_den s a' hs0
  have hT := fun a' => rtaketext_den s a' 24 hs0 (by omega)
  generalize hL : s.data.toList = L at hU hT ⊢
  unfold mkRV
  refine den_of_body k_ref39_takeMarker ⟨rfl, Nat.le_of_ble_eq_true rfl, thaw_intro ?_⟩
  unfold c_ref39_takeMarker
  simp only [go_sem]
  refine t_loopO_intro [] (fun k : Nat => k ≤ 5 ∧ ((nmS L a k).2.2 = 0)) (fun k => 5 - k) 0 [1, 5, 6, 7, 9, 10, 11, 12, 13, 16, 17, 18, 19, 20, 21, 22, 23, 24, 25, 26, 27, 28, 29, 30, 31, 32, 33, 34, 35, 36] (fun k => [(1, .a (.int .i64 (nmS L a k).2.1)), (9, .a (.bool (!bigS L a k))), (10, .a (.int .i64 k))]) (fun k => [[.a (.int .i64 0), .a (.int .i64 0), .a (.int .i64 0), .a (.int .i64 0), .a (.int .i64 0), .a (.str ⟨#[]⟩)], [.a (.int .u64 (uV L a k 0)), .a (.int .u64 (uV L a k 1)), .a (.int .u64 (uV L a k 2)), .a (.int .u64 (uV L a k 3)), .a (.int .u64 (uV L a k 4))]]) (fun k => []) ⟨by omega, by exact rfl⟩ (by simp) (by first | (simp; done) | simp [nmS, uV, bigS]) (by first | (simp; done) | simp [nmS, uV, bigS]) (by first | (simp; done) | simp [nmS, uV, bigS]) (fun k => by first | (simp; done) | simp [nmS, uV, bigS]) (fun k => by first | (simp; done) | simp [nmS, uV, bigS]) (fun k => by first | (simp; done) | simp [nmS, uV, bigS]) ?_
  intro k hk0 st_ hst
  have hk : k ≤ 5 := hk0.1
  have hall := hk0.2
  clear hk0
  simp only [go_sem] at hst
  subst hst
  by_cases hlt : k < 5
  · have h1 : (k : Int) < 5 := by omega
    have ew := wrap1 k 5 hlt (by omega)
    have es : nmS L a (k + 1) = Cw.takeU L (nmS L a k).2.1 := by
      show rdU L (nmS L a k).2.1 (nmS L a k).2.2 = _
      rw [hall, rdU_ok]
    have hc := hU (nmS L a k).2.1
    have eU : takeUV L (nmS L a k).2.1 = .tup [.a (.int .u64 (nmS L a (k + 1)).1), .a (.int .i64 (nmS L a (k + 1)).2.1), .a (.int .i64 (nmS L a (k + 1)).2.2)] := by rw [es]; rfl
    rw [eU] at hc
    have eb : bigS L a (k + 1) = (bigS L a k || big40 (nmS L a (k + 1)).1) := rfl
    by_cases he : (nmS L a (k + 1)).2.2 = 0
    rotate_left
    · have n0 : ((nmS L a (k + 1)).2.2 != 0) = true := by simpa using he
      have ef := mkT_of L a (k + 1) (by omega) he
      rw [if_pos (by rw [ef]; exact he), ef]
      simp only [h1, go_sem]
      refine t_call_intro (hc) ?_
      simp only [n0, zMk, go_sem]
      simp only [aresult, ares, go_sem]
    have n0 : ((nmS L a (k + 1)).2.2 != 0) = false := by simpa using he
    have elim : ∀ j, j ≠ k → uV L a (k + 1) j = uV L a k j := fun j hj => by
      unfold uV
      by_cases h : j < k
      · rw [if_pos h, if_pos (by omega)]
      · rw [if_neg h, if_neg (by omega)]
    have eself : uV L a (k + 1) k = lim (nmS L a (k + 1)).1 := if_pos (by omega)
    by_cases hu : 1099511627776 < (nmS L a (k + 1)).1
    · have q : (1099511627776 : Int) < ((nmS L a (k + 1)).1 : Int) := by omega
      have e1 : big40 (nmS L a (k + 1)).1 = true := by simp [big40, hu]
      have e2 : lim (nmS L a (k + 1)).1 = 0 := if_pos hu
      rw [e1, Bool.or_true] at eb
      rw [e2] at eself
      have hk5 : k = 0 ∨ k = 1 ∨ k = 2 ∨ k = 3 ∨ k = 4 := by omega
      simp only [h1, go_sem]
      refine t_call_intro (hc) ?_
      simp only [n0, q, go_sem]
      rcases hk5 with rfl | rfl | rfl | rfl | rfl
      · have l1 : uV L a 1 1 = uV L a 0 1 := elim 1 (by decide)
        have l2 : uV L a 1 2 = uV L a 0 2 := elim 2 (by decide)
        have l3 : uV L a 1 3 = uV L a 0 3 := elim 3 (by decide)
        have l4 : uV L a 1 4 = uV L a 0 4 := elim 4 (by decide)
        have es1 : uV L a 1 0 = 0 := eself
        have eb1 : bigS L a 1 = true := eb
        have ew : IntKind.i64.wrap (((0 : Nat) : Int) + 1) = ((0 + 1 : Nat) : Int) := ew
        refine t_gate_intro (by decide) ?_
        simp only [ew, go_sem]
        exact ⟨1, ⟨by omega, he⟩, by omega, ⟨(by first | (simp; done) | simp [l1, l2, l3, l4, es1, eb1]), (by first | (simp; done) | simp [l1, l2, l3, l4, es1, eb1]), (by first | (simp; done) | simp [l1, l2, l3, l4, es1, eb1]), (by first | (simp; done) | simp [l1, l2, l3, l4, es1, eb1]), (by first | (simp; done) | simp [l1, l2, l3, l4, es1, eb1])⟩⟩
      · have l0 : uV L a 2 0 = uV L a 1 0 := elim 0 (by decide)
        have l2 : uV L a 2 2 = uV L a 1 2 := elim 2 (by decide)
        have l3 : uV L a 2 3 = uV L a 1 3 := elim 3 (by decide)
        have l4 : uV L a 2 4 = uV L a 1 4 := elim 4 (by decide)
        have es1 : uV L a 2 1 = 0 := eself
        have eb1 : bigS L a 2 = true := eb
        have ew : IntKind.i64.wrap (((1 : Nat) : Int) + 1) = ((1 + 1 : Nat) : Int) := ew
        refine t_gate_intro (by decide) ?_
        simp only [ew, go_sem]
        exact ⟨2, ⟨by omega, he⟩, by omega, ⟨(by first | (simp; done) | simp [l0, l2, l3, l4, es1, eb1]), (by first | (simp; done) | simp [l0, l2, l3, l4, es1, eb1]), (by first | (simp; done) | simp [l0, l2, l3, l4, es1, eb1]), (by first | (simp; done) | simp [l0, l2, l3, l4, es1, eb1]), (by first | (simp; done) | simp [l0, l2, l3, l4, es1, eb1])⟩⟩
      · have l0 : uV L a 3 0 = uV L a 2 0 := elim 0 (by decide)
        have l1 : uV L a 3 1 = uV L a 2 1 := elim 1 (by decide)
        have l3 : uV L a 3 3 = uV L a 2 3 := elim 3 (by decide)
        have l4 : uV L a 3 4 = uV L a 2 4 := elim 4 (by decide)
        have es1 : uV L a 3 2 = 0 := eself
        have eb1 : bigS L a 3 = true := eb
        have ew : IntKind.i64.wrap (((2 : Nat) : Int) + 1) = ((2 + 1 : Nat) : Int) := ew
        refine t_gate_intro (by decide) ?_
        simp only [ew, go_sem]
        exact ⟨3, ⟨by omega, he⟩, by omega, ⟨(by first | (simp; done) | simp [l0, l1, l3, l4, es1, eb1]), (by first | (simp; done) | simp [l0, l1, l3, l4, es1, eb1]), (by first | (simp; done) | simp [l0, l1, l3, l4, es1, eb1]), (by first | (simp; done) | simp [l0, l1, l3, l4, es1, eb1]), (by first | (simp; done) | simp [l0, l1, l3, l4, es1, eb1])⟩⟩
      · have l0 : uV L a 4 0 = uV L a 3 0 := elim 0 (by decide)
        have l1 : uV L a 4 1 = uV L a 3 1 := elim 1 (by decide)
        have l2 : uV L a 4 2 = uV L a 3 2 := elim 2 (by decide)
        have l4 : uV L a 4 4 = uV L a 3 4 := elim 4 (by decide)
        have es1 : uV L a 4 3 = 0 := eself
        have eb1 : bigS L a 4 = true := eb
        have ew : IntKind.i64.wrap (((3 : Nat) : Int) + 1) = ((3 + 1 : Nat) : Int) := ew
        refine t_gate_intro (by decide) ?_
        simp only [ew, go_sem]
        exact ⟨4, ⟨by omega, he⟩, by omega, ⟨(by first | (simp; done) | simp [l0, l1, l2, l4, es1, eb1]), (by first | (simp; done) | simp [l0, l1, l2, l4, es1, eb1]), (by first | (simp; done) | simp [l0, l1, l2, l4, es1, eb1]), (by first | (simp; done) | simp [l0, l1, l2, l4, es1, eb1]), (by first | (simp; done) | simp [l0, l1, l2, l4, es1, eb1])⟩⟩
      · have l0 : uV L a 5 0 = uV L a 4 0 := elim 0 (by decide)
        have l1 : uV L a 5 1 = uV L a 4 1 := elim 1 (by decide)
        have l2 : uV L a 5 2 = uV L a 4 2 := elim 2 (by decide)
        have l3 : uV L a 5 3 = uV L a 4 3 := elim 3 (by decide)
        have es1 : uV L a 5 4 = 0 := eself
        have eb1 : bigS L a 5 = true := eb
        have ew : IntKind.i64.wrap (((4 : Nat) : Int) + 1) = ((4 + 1 : Nat) : Int) := ew
        refine t_gate_intro (by decide) ?_
        simp only [ew, go_sem]
        exact ⟨5, ⟨by omega, he⟩, by omega, ⟨(by first | (simp; done) | simp [l0, l1, l2, l3, es1, eb1]), (by first | (simp; done) | simp [l0, l1, l2, l3, es1, eb1]), (by first | (simp; done) | simp [l0, l1, l2, l3, es1, eb1]), (by first | (simp; done) | simp [l0, l1, l2, l3, es1, eb1]), (by first | (simp; done) | simp [l0, l1, l2, l3, es1, eb1])⟩⟩
    · have q : ¬ (1099511627776 : Int) < ((nmS L a (k + 1)).1 : Int) := by omega
      have e1 : big40 (nmS L a (k + 1)).1 = false := by simp [big40, hu]
      have e2 : lim (nmS L a (k + 1)).1 = ((nmS L a (k + 1)).1 : Int) := if_neg hu
      rw [e1, Bool.or_false] at eb
      rw [e2] at eself
      have hk5 : k = 0 ∨ k = 1 ∨ k = 2 ∨ k = 3 ∨ k = 4 := by omega
      simp only [h1, go_sem]
      refine t_call_intro (hc) ?_
      simp only [n0, q, go_sem]
      rcases hk5 with rfl | rfl | rfl | rfl | rfl
      · have l1 : uV L a 1 1 = uV L a 0 1 := elim 1 (by decide)
        have l2 : uV L a 1 2 = uV L a 0 2 := elim 2 (by decide)
        have l3 : uV L a 1 3 = uV L a 0 3 := elim 3 (by decide)
        have l4 : uV L a 1 4 = uV L a 0 4 := elim 4 (by decide)
        have es1 : uV L a 1 0 = ((nmS L a 1).1 : Int) := eself
        have eb1 : bigS L a 1 = bigS L a 0 := eb
        have ew : IntKind.i64.wrap (((0 : Nat) : Int) + 1) = ((0 + 1 : Nat) : Int) := ew
        refine t_gate_intro (by decide) ?_
        simp only [ew, go_sem]
        exact ⟨1, ⟨by omega, he⟩, by omega, ⟨(by first | (simp; done) | simp [l1, l2, l3, l4, es1, eb1]), (by first | (simp; done) | simp [l1, l2, l3, l4, es1, eb1]), (by first | (simp; done) | simp [l1, l2, l3, l4, es1, eb1]), (by first | (simp; done) | simp [l1, l2, l3, l4, es1, eb1]), (by first | (simp; done) | simp [l1, l2, l3, l4, es1, eb1])⟩⟩
      · have l0 : uV L a 2 0 = uV L a 1 0 := elim 0 (by decide)
        have l2 : uV L a 2 2 = uV L a 1 2 := elim 2 (by decide)
        have l3 : uV L a 2 3 = uV L a 1 3 := elim 3 (by decide)
        have l4 : uV L a 2 4 = uV L a 1 4 := elim 4 (by decide)
        have es1 : uV L a 2 1 = ((nmS L a 2).1 : Int) := eself
        have eb1 : bigS L a 2 = bigS L a 1 := eb
        have ew : IntKind.i64.wrap (((1 : Nat) : Int) + 1) = ((1 + 1 : Nat) : Int) := ew
        refine t_gate_intro (by decide) ?_
        simp only [ew, go_sem]
        exact ⟨2, ⟨by omega, he⟩, by omega, ⟨(by first | (simp; done) | simp [l0, l2, l3, l4, es1, eb1]), (by first | (simp; done) | simp [l0, l2, l3, l4, es1, eb1]), (by first | (simp; done) | simp [l0, l2, l3, l4, es1, eb1]), (by first | (simp; done) | simp [l0, l2, l3, l4, es1, eb1]), (by first | (simp; done) | simp [l0, l2, l3, l4, es1, eb1])⟩⟩
      · have l0 : uV L a 3 0 = uV L a 2 0 := elim 0 (by decide)
        have l1 : uV L a 3 1 = uV L a 2 1 := elim 1 (by decide)
        have l3 : uV L a 3 3 = uV L a 2 3 := elim 3 (by decide)
        have l4 : uV L a 3 4 = uV L a 2 4 := elim 4 (by decide)
        have es1 : uV L a 3 2 = ((nmS L a 3).1 : Int) := eself
        have eb1 : bigS L a 3 = bigS L a 2 := eb
        have ew : IntKind.i64.wrap (((2 : Nat) : Int) + 1) = ((2 + 1 : Nat) : Int) := ew
        refine t_gate_intro (by decide) ?_
        simp only [ew, go_sem]
        exact ⟨3, ⟨by omega, he⟩, by omega, ⟨(by first | (simp; done) | simp [l0, l1, l3, l4, es1, eb1]), (by first | (simp; done) | simp [l0, l1, l3, l4, es1, eb1]), (by first | (simp; done) | simp [l0, l1, l3, l4, es1, eb1]), (by first | (simp; done) | simp [l0, l1, l3, l4, es1, eb1]), (by first | (simp; done) | simp [l0, l1, l3, l4, es1, eb1])⟩⟩
      · have l0 : uV L a 4 0 = uV L a 3 0 := elim 0 (by decide)
        have l1 : uV L a 4 1 = uV L a 3 1 := elim 1 (by decide)
        have l2 : uV L a 4 2 = uV L a 3 2 := elim 2 (by decide)
        have l4 : uV L a 4 4 = uV L a 3 4 := elim 4 (by decide)
        have es1 : uV L a 4 3 = ((nmS L a 4).1 : Int) := eself
        have eb1 : bigS L a 4 = bigS L a 3 := eb
        have ew : IntKind.i64.wrap (((3 : Nat) : Int) + 1) = ((3 + 1 : Nat) : Int) := ew
        refine t_gate_intro (by decide) ?_
        simp only [ew, go_sem]
        exact ⟨4, ⟨by omega, he⟩, by omega, ⟨(by first | (simp; done) | simp [l0, l1, l2, l4, es1, eb1]), (by first | (simp; done) | simp [l0, l1, l2, l4, es1, eb1]), (by first | (simp; done) | simp [l0, l1, l2, l4, es1, eb1]), (by first | (simp; done) | simp [l0, l1, l2, l4, es1, eb1]), (by first | (simp; done) | simp [l0, l1, l2, l4, es1, eb1])⟩⟩
      · have l0 : uV L a 5 0 = uV L a 4 0 := elim 0 (by decide)
        have l1 : uV L a 5 1 = uV L a 4 1 := elim 1 (by decide)
        have l2 : uV L a 5 2 = uV L a 4 2 := elim 2 (by decide)
        have l3 : uV L a 5 3 = uV L a 4 3 := elim 3 (by decide)
        have es1 : uV L a 5 4 = ((nmS L a 5).1 : Int) := eself
        have eb1 : bigS L a 5 = bigS L a 4 := eb
        have ew : IntKind.i64.wrap (((4 : Nat) : Int) + 1) = ((4 + 1 : Nat) : Int) := ew
        refine t_gate_intro (by decide) ?_
        simp only [ew, go_sem]
        exact ⟨5, ⟨by omega, he⟩, by omega, ⟨(by first | (simp; done) | simp [l0, l1, l2, l3, es1, eb1]), (by first | (simp; done) | simp [l0, l1, l2, l3, es1, eb1]), (by first | (simp; done) | simp [l0, l1, l2, l3, es1, eb1]), (by first | (simp; done) | simp [l0, l1, l2, l3, es1, eb1]), (by first | (simp; done) | simp [l0, l1, l2, l3, es1, eb1])⟩⟩
  · have hke : k = 5 := by omega
    subst hke
    have h1 : ¬ (5 : Int) < 5 := by omega
    have eT : takeTV L (nmS L a 5).2.1 24 = .tup [.a (.str ⟨(mkT L a).1.toArray⟩), .a (.int .i64 (mkT L a).2.1), .a (.int .i64 (mkT L a).2.2)] := by unfold mkT; rw [hall, rdT_ok]; rfl
    have hc := hT (nmS L a 5).2.1
    rw [eT] at hc
    by_cases he : (mkT L a).2.2 = 0
    rotate_left
    · have n0 : ((mkT L a).2.2 != 0) = true := by simpa using he
      rw [if_pos he]
      simp only [c5, h1, go_sem]
      refine t_call_intro (hc) ?_
      simp only [n0, zMk, go_sem]
      simp only [aresult, ares, go_sem]
    have n0 : ((mkT L a).2.2 != 0) = false := by simpa using he
    rw [if_neg (by simpa using he)]
    have u0 : uV L a 5 0 = lim (nmS L a 1).1 := rfl
    have u1 : uV L a 5 1 = lim (nmS L a 2).1 := rfl
    have u2 : uV L a 5 2 = lim (nmS L a 3).1 := rfl
    have u3 : uV L a 5 3 = lim (nmS L a 4).1 := rfl
    have u4 : uV L a 5 4 = lim (nmS L a 5).1 := rfl
    rw [← bigS_5]
    simp only [c5, h1, go_sem]
    refine t_call_intro (hc) ?_
    simp only [n0, u0, u1, u2, u3, u4, limw, go_sem]
    refine t_gate_intro (by decide) ?_
    simp only [u0, u1, u2, u3, u4, limw, go_sem]
    refine t_gate_intro (by decide) ?_
    simp only [u0, u1, u2, u3, u4, limw, go_sem]
    refine t_gate_intro (by decide) ?_
    simp only [u0, u1, u2, u3, u4, limw, go_sem]
    refine t_gate_intro (by decide) ?_
    simp only [u0, u1, u2, u3, u4, limw, go_sem]
    refine t_gate_intro (by decide) ?_
    simp only [u0, u1, u2, u3, u4, limw, go_sem]
    simp only [aresult, ares, go_sem]
    rfl

def eKd (kd : Int) : List Atom := [.int .i64 kd, .nils, .int .i64 0, .int .i64 0, .int .i64 0, .int .i64 0, .int .i64 0, .str ⟨#[]⟩, .str ⟨#[]⟩, .int .i64 0]

set_option maxRecDepth 100000 in
set_option maxHeartbeats 4000000 in
theorem takeRest_den (kd : Int) (s : ByteArray) (a : Int) (hs0 : s.size ≤ 1073741824) (hn : ¬ (kd = 3 ∧ (mkT s.data.toList a).2.2 ≠ 0)) : PDen Try.prog 46 [.a (.int .i64 kd), .a (.str s), .a (.int .i64 a)] (.tup [.agg (rowE (restE kd s.data.toList a).1), .a (.bool (!(restE kd s.data.toList a).2.2.2)), .a (.int .i64 (restE kd s.data.toList a).2.1), .a (.int .i64 (restE kd s.data.toList a).2.2.1)]) := by
  have hD := rdecReqs_den s a hs0
  have hM := takeMarker_den s a hs0
  have hU := rtakeuint_den s a hs0
  have hT := rtaketext_den s a 16384 hs0 (by omega)
  generalize s.data.toList = L at hn hD hM hU hT ⊢
  unfold restE rowE
  by_cases k2 : kd = 2
  · subst k2
    unfold decReqsV at hD
    simp only [if_true]
    generalize decReqs L a = X at hD ⊢
    obtain ⟨x, n, e⟩ := X
    simp only [] at hD ⊢
    unfold m0
    refine den_of_body k_ref39_takeRest ⟨rfl, Nat.le_of_ble_eq_true rfl, thaw_intro ?_⟩
    unfold c_ref39_takeRest
    simp only [q22, go_sem]
    refine t_call_intro (hD) ?_
    simp only [go_sem]
    simp only [aresult, ares, go_sem]
  have n2 : (kd == 2) = false := by simpa using k2
  by_cases k3 : kd = 3
  · subst k3
    have he : (mkT L a).2.2 = 0 := Classical.byContradiction fun h => hn ⟨rfl, h⟩
    unfold mkRV at hM
    rw [if_neg (by simpa using he)] at hM
    simp only [if_neg k2, if_true]
    rw [he]
    generalize mkX L a = m at hM ⊢
    generalize mkBig L a = b at hM ⊢
    obtain ⟨mk, mp, mw, md, mn, my⟩ := m
    unfold Mk.row at hM
    simp only [] at hM ⊢
    refine den_of_body k_ref39_takeRest ⟨rfl, Nat.le_of_ble_eq_true rfl, thaw_intro ?_⟩
    unfold c_ref39_takeRest
    simp only [q32, q33, go_sem]
    refine t_call_intro (hM) ?_
    simp only [go_sem]
    simp only [aresult, ares, go_sem]
  have n3 : (kd == 3) = false := by simpa using k3
  by_cases k4 : kd = 4
  · subst k4
    simp only [if_neg k2, if_neg k3, if_true]
    unfold m0
    refine den_of_body k_ref39_takeRest ⟨rfl, Nat.le_of_ble_eq_true rfl, thaw_intro ?_⟩
    unfold c_ref39_takeRest
    simp only [q42, q43, q44, go_sem]
    refine t_call_intro (hT) ?_
    simp only [takeTV, go_sem]
    simp only [aresult, ares, go_sem]
  have n4 : (kd == 4) = false := by simpa using k4
  by_cases k5 : kd = 5
  · subst k5
    simp only [if_neg k2, if_neg k3, if_neg k4, if_true]
    unfold m0
    by_cases hu : 1099511627776 < (Cw.takeU L a).1
    · have q : (1099511627776 : Int) < ((Cw.takeU L a).1 : Int) := by omega
      have e1 : big40 (Cw.takeU L a).1 = true := by simp [big40, hu]
      have e2 : lim (Cw.takeU L a).1 = 0 := if_pos hu
      rw [e1, e2]
      refine den_of_body k_ref39_takeRest ⟨rfl, Nat.le_of_ble_eq_true rfl, thaw_intro ?_⟩
      unfold c_ref39_takeRest
      simp only [q52, q53, q54, q55, go_sem]
      refine t_call_intro (hU) ?_
      simp only [takeUV, q, go_sem]
      simp only [aresult, ares, go_sem]
    · have q : ¬ (1099511627776 : Int) < ((Cw.takeU L a).1 : Int) := by omega
      have e1 : big40 (Cw.takeU L a).1 = false := by simp [big40, hu]
      have e2 : lim (Cw.takeU L a).1 = ((Cw.takeU L a).1 : Int) := if_neg hu
      have ew : IntKind.i64.wrap ((Cw.takeU L a).1 : Int) = ((Cw.takeU L a).1 : Int) := by rw [IntKind.wrap_i64]; omega
      rw [e1, e2]
      refine den_of_body k_ref39_takeRest ⟨rfl, Nat.le_of_ble_eq_true rfl, thaw_intro ?_⟩
      unfold c_ref39_takeRest
      simp only [q52, q53, q54, q55, go_sem]
      refine t_call_intro (hU) ?_
      simp only [takeUV, q, ew, go_sem]
      simp only [aresult, ares, go_sem]
  have n5 : (kd == 5) = false := by simpa using k5
  simp only [if_neg k2, if_neg k3, if_neg k4, if_neg k5]
  unfold m0
  refine den_of_body k_ref39_takeRest ⟨rfl, Nat.le_of_ble_eq_true rfl, thaw_intro ?_⟩
  unfold c_ref39_takeRest
  simp only [n2, n3, n4, n5, go_sem]
  simp only [aresult, ares, go_sem]

set_option maxRecDepth 100000 in
set_option maxHeartbeats 4000000 in
theorem takeRest_err (s : ByteArray) (a : Int) (hs0 : s.size ≤ 1073741824) (hn : (mkT s.data.toList a).2.2 ≠ 0) : PDen Try.prog 46 [.a (.int .i64 3), .a (.str s), .a (.int .i64 a)] (.tup [.agg (eKd 3), .a (.bool false), .a (.int .i64 0), .a (.int .i64 (mkT s.data.toList a).2.2)]) := by
  have hM := takeMarker_den s a hs0
  generalize s.data.toList = L at hn hM ⊢
  unfold mkRV zMk at hM
  rw [if_pos hn] at hM
  unfold eKd
  refine den_of_body k_ref39_takeRest ⟨rfl, Nat.le_of_ble_eq_true rfl, thaw_intro ?_⟩
  unfold c_ref39_takeRest
  simp only [q32, q33, go_sem]
  refine t_call_intro (hM) ?_
  simp only [go_sem]
  simp only [aresult, ares, go_sem]

set_option maxRecDepth 100000 in
set_option maxHeartbeats 4000000 in
theorem redec_N (s : ByteArray) (hs0 : s.size ≤ 1073741824) : PDen Try.prog 22 [.a (.str s)] (decEN s.data.toList) := by
  have hlen : s.data.toList.length = s.size := dsize s
  unfold decEN
  rw [hlen]
  by_cases h40 : 4096 < s.size
  · have q : (4096 : Int) < (s.size : Int) := by omega
    rw [if_pos h40]
    refine den_of_body k_ref39_Decode ⟨rfl, Nat.le_of_ble_eq_true rfl, thaw_intro ?_⟩
    unfold c_ref39_Decode
    simp only [q, zRow, go_sem]
    simp only [aresult, ares, go_sem]
  have q40 : ¬ (4096 : Int) < (s.size : Int) := by omega
  rw [if_neg h40]
  have hU := rtakeuint_den s 0 hs0
  have hC0 := fun (kd a : Int) => takeRest_den kd s a hs0
  have hX0 := fun (a : Int) => takeRest_err s a hs0
  have hF0 := fun (kd a : Int) => restE_fit kd s.data.toList a (by omega)
  have hK0 := fun (kd a : Int) => restE_kd kd s.data.toList a
  generalize hL : s.data.toList = L at hU hC0 hX0 hF0 hK0 ⊢
  have eU : takeUV L 0 = .tup [.a (.int .u64 (Cw.takeU L 0).1), .a (.int .i64 (Cw.takeU L 0).2.1), .a (.int .i64 (Cw.takeU L 0).2.2)] := rfl
  rw [eU] at hU
  generalize Cw.takeU L 0 = U at hU ⊢
  obtain ⟨kd, a, e⟩ := U
  simp only [] at hU ⊢
  by_cases he : e = 0
  rotate_left
  · have n0 : (e != 0) = true := by simpa using he
    rw [if_pos he]
    refine den_of_body k_ref39_Decode ⟨rfl, Nat.le_of_ble_eq_true rfl, thaw_intro ?_⟩
    unfold c_ref39_Decode
    simp only [q40, go_sem]
    refine t_call_intro (hU) ?_
    simp only [n0, zRow, go_sem]
    simp only [aresult, ares, go_sem]
  have n0 : (e != 0) = false := by simpa using he
  rw [if_neg (by simpa using he)]
  by_cases hk : kd < 1 ∨ 5 < kd
  · rw [if_pos hk]
    by_cases h1 : (kd : Int) < 1
    · refine den_of_body k_ref39_Decode ⟨rfl, Nat.le_of_ble_eq_true rfl, thaw_intro ?_⟩
      unfold c_ref39_Decode
      simp only [q40, go_sem]
      refine t_call_intro (hU) ?_
      simp only [n0, h1, zRow, go_sem]
      simp only [aresult, ares, go_sem]
    · have h5 : (5 : Int) < (kd : Int) := by omega
      refine den_of_body k_ref39_Decode ⟨rfl, Nat.le_of_ble_eq_true rfl, thaw_intro ?_⟩
      unfold c_ref39_Decode
      simp only [q40, go_sem]
      refine t_call_intro (hU) ?_
      simp only [n0, h1, h5, zRow, go_sem]
      simp only [aresult, ares, go_sem]
  rw [if_neg hk]
  have h1 : ¬ (kd : Int) < 1 := by omega
  have h5 : ¬ (5 : Int) < (kd : Int) := by omega
  have ew : IntKind.i64.wrap (kd : Int) = (kd : Int) := by rw [IntKind.wrap_i64]; omega
  by_cases hx : (kd : Int) = 3 ∧ (mkT L a).2.2 ≠ 0
  · have hX := hX0 a hx.2
    have ez : (restE kd L a).2.2.1 = (mkT L a).2.2 := by rw [hx.1]; rfl
    rw [ez, if_pos hx.2]
    have n2 : ((mkT L a).2.2 != 0) = true := by simpa using hx.2
    have k3 : kd = 3 := by omega
    subst k3
    unfold eKd at hX
    refine den_of_body k_ref39_Decode ⟨rfl, Nat.le_of_ble_eq_true rfl, thaw_intro ?_⟩
    unfold c_ref39_Decode
    simp only [q40, go_sem]
    refine t_call_intro (hU) ?_
    simp only [n0, h1, h5, ew, go_sem]
    refine t_call_intro (hX) ?_
    simp only [n2, zRow, go_sem]
    simp only [aresult, ares, go_sem]
  have hC := hC0 kd a hx
  have hF := hF0 kd a
  have hK := hK0 kd a
  have hV : PDen Try.prog 18 [.agg (rowE (restE kd L a).1)] (.a (.int .i64 (enE (restE kd L a).1))) := (rvalid_den _ hF).args ⟨VLe.agg (rowE_le _ fun hn => hK.2 (by rw [← hK.1]; exact hn)), trivial⟩
  generalize restE kd L a = R at hC hV ⊢
  obtain ⟨x, at2, e2, big⟩ := R
  simp only [] at hC hV ⊢
  have hrow : ∃ B : Atom, rowE x = [.int .i64 x.kd, B, .int .i64 x.m.k, .int .i64 x.m.p, .int .i64 x.m.w, .int .i64 x.m.d, .int .i64 x.m.n, .str x.m.y, .str x.sr, .int .i64 x.n] := ⟨_, rfl⟩
  obtain ⟨B, hrow⟩ := hrow
  rw [hrow] at hC hV ⊢
  by_cases he2 : e2 = 0
  rotate_left
  · have n2 : (e2 != 0) = true := by simpa using he2
    rw [if_pos he2]
    refine den_of_body k_ref39_Decode ⟨rfl, Nat.le_of_ble_eq_true rfl, thaw_intro ?_⟩
    unfold c_ref39_Decode
    simp only [q40, go_sem]
    refine t_call_intro (hU) ?_
    simp only [n0, h1, h5, ew, go_sem]
    refine t_call_intro (hC) ?_
    simp only [n2, zRow, go_sem]
    simp only [aresult, ares, go_sem]
  have n2 : (e2 != 0) = false := by simpa using he2
  rw [if_neg (by simpa using he2)]
  by_cases ha : at2 = (s.size : Int)
  rotate_left
  · have n3 : (at2 != (s.size : Int)) = true := by simpa using ha
    rw [if_pos (.inl ha)]
    refine den_of_body k_ref39_Decode ⟨rfl, Nat.le_of_ble_eq_true rfl, thaw_intro ?_⟩
    unfold c_ref39_Decode
    simp only [q40, go_sem]
    refine t_call_intro (hU) ?_
    simp only [n0, h1, h5, ew, go_sem]
    refine t_call_intro (hC) ?_
    simp only [n2, n3, zRow, go_sem]
    simp only [aresult, ares, go_sem]
  have n3 : (at2 != (s.size : Int)) = false := by simpa using ha
  cases big with
  | true =>
    rw [if_pos (.inr rfl)]
    refine den_of_body k_ref39_Decode ⟨rfl, Nat.le_of_ble_eq_true rfl, thaw_intro ?_⟩
    unfold c_ref39_Decode
    simp only [q40, go_sem]
    refine t_call_intro (hU) ?_
    simp only [n0, h1, h5, ew, go_sem]
    refine t_call_intro (hC) ?_
    simp only [n2, n3, zRow, go_sem]
    simp only [aresult, ares, go_sem]
  | false =>
    rw [if_neg (by simp [ha])]
    by_cases hv : enE x = 0
    · have n4 : (enE x != 0) = false := by simpa using hv
      rw [if_neg (by simpa using hv)]
      refine den_of_body k_ref39_Decode ⟨rfl, Nat.le_of_ble_eq_true rfl, thaw_intro ?_⟩
      unfold c_ref39_Decode
      simp only [q40, go_sem]
      refine t_call_intro (hU) ?_
      simp only [n0, h1, h5, ew, go_sem]
      refine t_call_intro (hC) ?_
      simp only [n2, n3, go_sem]
      refine t_call_intro (hV) ?_
      simp only [n4, go_sem]
      simp only [aresult, ares, go_sem]
    · have n4 : (enE x != 0) = true := by simpa using hv
      rw [if_pos hv]
      refine den_of_body k_ref39_Decode ⟨rfl, Nat.le_of_ble_eq_true rfl, thaw_intro ?_⟩
      unfold c_ref39_Decode
      simp only [q40, go_sem]
      refine t_call_intro (hU) ?_
      simp only [n0, h1, h5, ew, go_sem]
      refine t_call_intro (hC) ?_
      simp only [n2, n3, go_sem]
      refine t_call_intro (hV) ?_
      simp only [n4, zRow, go_sem]
      simp only [aresult, ares, go_sem]
theorem redec_den (s : ByteArray) (hs0 : s.size ≤ 1073741824) : PDen Try.prog 22 [.a (.str s)] (decEV (decE s.data.toList)) := (redec_N s hs0).le (decEN_le _)

end Go.Proofs.Ytpnihinmlmoogaa

/- Chapter 39: the examples; few; arguments. -/
namespace Go.Proofs.Ytpnihinmlmoogaa
open Go Ab Go.RowKit
set_option maxRecDepth 100000
attribute [local irreducible] awp aops aop asoft aeff aloop acall acallI acallT
attribute [local go_sem] Vl.row sRow

def rawE (e : En) : List Atom := [.int .i64 e.kd, .nils, .int .i64 e.m.k, .int .i64 e.m.p, .int .i64 e.m.w, .int .i64 e.m.d, .int .i64 e.m.n, .str e.m.y, .str e.sr, .int .i64 e.n]
theorem rawE_le (e : En) (h : e.ba = []) : RLs (rawE e) e.row := by
  unfold rawE En.row
  rw [h]
  exact ⟨RLe.refl _, RLe.nils 8, RLs.refl _⟩
def x1 : En := ⟨1, [], m0, ⟨#[]⟩, 0⟩
def x2 : En := ⟨2, [], m0, ⟨#[]⟩, 0⟩
def x3 : En := ⟨5, [], m0, ⟨#[]⟩, 300⟩
def x4 : En := ⟨3, [], ⟨1, 1, 2, 0, 0, ⟨#[109]⟩⟩, ⟨#[]⟩, 0⟩
def x5 : En := ⟨5, [], m0, ⟨#[]⟩, -1⟩
theorem ex1 : encE x1 = (⟨#[1]⟩, 0) := by kernel_rfl
theorem ex2 : encE x2 = (⟨#[2, 0]⟩, 0) := by kernel_rfl
theorem ex3 : encE x3 = (⟨#[5, 172, 2]⟩, 0) := by kernel_rfl
theorem ex4 : encE x4 = (⟨#[3, 1, 1, 2, 0, 0, 1, 109]⟩, 0) := by kernel_rfl
theorem ex5 : encE x5 = (⟨#[]⟩, 1) := by kernel_rfl
theorem ex6 : decE (⟨#[3, 1, 1, 2, 0, 0, 1, 109]⟩ : ByteArray).data.toList = (x4, 0) := by kernel_rfl
theorem ex7 : decE (⟨#[6]⟩ : ByteArray).data.toList = (en0, 5) := by kernel_rfl
theorem ex8 : enE x4 = 0 := by kernel_rfl
theorem ex9 : enEq x4 en0 = false := by kernel_rfl
theorem xfit (e : En) (hb : e.ba = []) (hy : e.m.y.size ≤ 10) (hs : e.sr.size ≤ 10) (hk : -10 ≤ e.m.k ∧ e.m.k ≤ 10) (hn : -1000 ≤ e.n ∧ e.n ≤ 1000) : e.fit :=
  ⟨by rw [hb]; exact Nat.zero_le _, (by rw [hb]; intro r h; cases h), by omega, by omega, by rw [Cw.m63]; omega, by rw [Cw.m63]; omega⟩
theorem fit1 : x1.fit := xfit _ rfl (by decide) (by decide) (by decide) (by decide)
theorem fit2 : x2.fit := xfit _ rfl (by decide) (by decide) (by decide) (by decide)
theorem fit3 : x3.fit := xfit _ rfl (by decide) (by decide) (by decide) (by decide)
theorem fit4 : x4.fit := xfit _ rfl (by decide) (by decide) (by decide) (by decide)
theorem fit5 : x5.fit := xfit _ rfl (by decide) (by decide) (by decide) (by decide)
theorem un_intw {n : Nat} {xs : List Atom} (h : Has Try.prog (n + 1) 3 xs) : ∃ m, xs = [.int .i64 m] ∧ (Lit.int IntKind.i64 m).wf = true := by
  unfold Has at h; rw [Try.underlying3] at h; exact h
set_option maxHeartbeats 4000000 in
theorem works39_den : PDen Try.prog 10 [] (.a (.bool true)) := by
  have h1 := PDen.args (encE_den x1 fit1) (show VLs [.agg (rawE x1)] [.agg x1.row] from ⟨VLe.agg (rawE_le _ rfl), trivial⟩)
  have h2 := PDen.args (encE_den x2 fit2) (show VLs [.agg (rawE x2)] [.agg x2.row] from ⟨VLe.agg (rawE_le _ rfl), trivial⟩)
  have h3 := PDen.args (encE_den x3 fit3) (show VLs [.agg (rawE x3)] [.agg x3.row] from ⟨VLe.agg (rawE_le _ rfl), trivial⟩)
  have h4 := PDen.args (encE_den x4 fit4) (show VLs [.agg (rawE x4)] [.agg x4.row] from ⟨VLe.agg (rawE_le _ rfl), trivial⟩)
  have h5 := PDen.args (encE_den x5 fit5) (show VLs [.agg (rawE x5)] [.agg x5.row] from ⟨VLe.agg (rawE_le _ rfl), trivial⟩)
  have h6 := edec_den ⟨#[3, 1, 1, 2, 0, 0, 1, 109]⟩ (by decide)
  have h7 := edec_den ⟨#[6]⟩ (by decide)
  have h8 := PDen.args (esame_den x4 x4 (by decide) (fun r h => by cases h)) (show VLs [.agg x4.row, .agg (rawE x4)] [.agg x4.row, .agg x4.row] from ⟨VLe.refl _, VLe.agg (rawE_le _ rfl), trivial⟩)
  have h9 := PDen.args (valid_den x4 fit4) (show VLs [.agg (rawE x4)] [.agg x4.row] from ⟨VLe.agg (rawE_le _ rfl), trivial⟩)
  have h10 := PDen.args (esame_den x4 en0 (by decide) (fun r h => by cases h)) (show VLs [.agg x4.row, .agg (rawE en0)] [.agg x4.row, .agg en0.row] from ⟨VLe.refl _, VLe.agg (rawE_le _ rfl), trivial⟩)
  rw [ex1] at h1
  rw [ex2] at h2
  rw [ex3] at h3
  rw [ex4] at h4
  rw [ex5] at h5
  rw [ex6] at h6
  rw [ex7] at h7
  rw [enEq_refl] at h8
  rw [ex8] at h9
  rw [ex9] at h10
  unfold encEV rawE x1 m0 at h1
  unfold encEV rawE x2 m0 at h2
  unfold encEV rawE x3 m0 at h3
  unfold encEV rawE x4 at h4
  unfold encEV rawE x5 m0 at h5
  unfold decEV En.row x4 at h6
  unfold decEV En.row en0 m0 at h7
  unfold rawE En.row x4 at h8
  unfold rawE x4 at h9
  unfold rawE En.row x4 en0 m0 at h10
  simp only [List.map_nil] at h1 h2 h3 h4 h5 h6 h7 h8 h9 h10
  refine den_of_body k_law39_works ⟨rfl, Nat.le_of_ble_eq_true rfl, thaw_intro ?_⟩
  unfold c_law39_works
  simp only [go_sem]
  refine t_call_intro (h1) ?_
  simp only [go_sem]
  refine t_call_intro (h2) ?_
  simp only [go_sem]
  refine t_call_intro (h3) ?_
  simp only [go_sem]
  refine t_call_intro (h4) ?_
  simp only [go_sem]
  refine t_call_intro (h6) ?_
  simp only [go_sem]
  refine t_call_intro (h5) ?_
  simp only [go_sem]
  refine t_call_intro (h7) ?_
  simp only [bne_self_eq_false, beq_self_eq_true, go_sem]
  refine t_call_intro (h8) ?_
  simp only [go_sem]
  refine t_call_intro (h9) ?_
  simp only [beq_self_eq_true, go_sem]
  refine t_call_intro (h10) ?_
  simp only [go_sem]
  simp only [aresult, ares, go_sem]
def fewE (e : En) : Bool := decide (e.ba.length ≤ 70) && (decide (e.sr.size ≤ 20000) && (decide (e.m.y.size ≤ 300) && e.ba.all fewR))
set_option maxHeartbeats 4000000 in
theorem few39_den (e : En) : PDen Try.prog 16 [.agg e.row] (.a (.bool (fewE e))) := by
  obtain ⟨kd, ba, ⟨mk, mp, mw, md, mn, my⟩, sr, n⟩ := e
  unfold En.row fewE
  simp only []
  by_cases c1 : ba.length ≤ 70
  rotate_left
  · have q1 : (70 : Int) < (ba.length : Int) := by omega
    refine den_of_body k_law39_few ⟨rfl, Nat.le_of_ble_eq_true rfl, thaw_intro ?_⟩
    unfold c_law39_few
    simp only [q1, go_sem]
    simp only [aresult, ares, go_sem]
    simp [c1]
  have q1 : ¬ (70 : Int) < (ba.length : Int) := by omega
  by_cases c2 : sr.size ≤ 20000
  rotate_left
  · have q2 : (20000 : Int) < (sr.size : Int) := by omega
    refine den_of_body k_law39_few ⟨rfl, Nat.le_of_ble_eq_true rfl, thaw_intro ?_⟩
    unfold c_law39_few
    simp only [q1, q2, go_sem]
    simp only [aresult, ares, go_sem]
    simp [c2]
  have q2 : ¬ (20000 : Int) < (sr.size : Int) := by omega
  by_cases c3 : my.size ≤ 300
  rotate_left
  · have q3 : (300 : Int) < (my.size : Int) := by omega
    refine den_of_body k_law39_few ⟨rfl, Nat.le_of_ble_eq_true rfl, thaw_intro ?_⟩
    unfold c_law39_few
    simp only [q1, q2, q3, go_sem]
    simp only [aresult, ares, go_sem]
    simp [c3]
  have q3 : ¬ (300 : Int) < (my.size : Int) := by omega
  have hG : (decide (ba.length ≤ 70) && (decide (sr.size ≤ 20000) && (decide (my.size ≤ 300) && ba.all fewR))) = ba.all fewR := by simp [c1, c2, c3]
  rw [hG]
  refine den_of_body k_law39_few ⟨rfl, Nat.le_of_ble_eq_true rfl, thaw_intro ?_⟩
  unfold c_law39_few
  simp only [q1, q2, q3, go_sem]
  refine t_loop_intro (fun k : Nat => k ≤ ba.length ∧ (ba.all fewR = (ba.drop k).all fewR)) (fun k => ba.length - k) 0 [2, 3, 21, 22, 23, 24, 25, 26, 27, 28, 29, 30, 31, 32, 33, 34] (fun k => [(3, .a (.int .i64 k))]) ⟨by omega, by rfl⟩ (by simp) (fun k => by simp) rfl ?_
  intro k hk0 fr_ hfr
  have hk : k ≤ ba.length := hk0.1
  have hall := hk0.2
  clear hk0
  simp only [go_sem] at hfr
  subst hfr
  by_cases hlt : k < ba.length
  · have h1 : (k : Int) < (ba.length : Int) := by omega
    have e := getD_map Req.row ba k hlt
    have er := rowr ba[k]
    have hf := rfew_den ba[k]
    rw [er] at e hf
    have ew := wrap1 k ba.length hlt (by omega)
    have es := all_dstep fewR ba k hlt
    simp only [h1, e, go_sem]
    refine t_call_intro (hf) ?_
    cases hq : fewR ba[k] with
    | true =>
      simp only [ew, go_sem]
      refine t_round (k + 1) ⟨by omega, by rw [hall, es, hq]; rfl⟩ (by omega) (by simp) rfl rfl (by simp) rfl
    | false =>
      simp only [go_sem]
      simp only [aresult, ares, go_sem]
      rw [hall, es, hq]; rfl
  · have h1 : ¬ (k : Int) < (ba.length : Int) := by omega
    simp only [h1, go_sem]
    simp only [aresult, ares, go_sem]
    rw [hall, List.drop_eq_nil_of_le (by omega)]; rfl
theorem un_marker {n : Nat} {xs : List Atom} (h : Has Try.prog (n + 2) 28 xs) : ∃ m : Mk, xs = m.row ∧ m.y.size ≤ 9223372036854775807 ∧ -Cw.M63 ≤ m.k ∧ m.k < Cw.M63 := by
  unfold Has at h; rw [Try.underlying28] at h
  obtain ⟨p1, r1, rfl, h1, p2, r2, rfl, h2, p3, r3, rfl, h3, p4, r4, rfl, h4, p5, r5, rfl, h5, p6, r6, rfl, h6, rfl⟩ := h
  obtain ⟨a, rfl, ha⟩ := un_intw h1
  obtain ⟨b, rfl⟩ := un_int h2
  obtain ⟨c, rfl⟩ := un_int h3
  obtain ⟨d, rfl⟩ := un_int h4
  obtain ⟨e, rfl⟩ := un_int h5
  obtain ⟨y, rfl, hy⟩ := un_string h6
  unfold reachBytes at hy
  exact ⟨⟨a, b, c, d, e, y⟩, rfl, by simp only; omega, wf_in ha⟩
theorem un_entry {n : Nat} {xs : List Atom} (h : Has Try.prog (n + 6) 30 xs) : ∃ e : En, xs = e.row ∧ e.fit := by
  unfold Has at h; rw [Try.underlying30] at h
  obtain ⟨p1, r1, rfl, h1, p2, r2, rfl, h2, p3, r3, rfl, h3, p4, r4, rfl, h4, p5, r5, rfl, h5, rfl⟩ := h
  obtain ⟨a, rfl⟩ := un_int h1
  obtain ⟨l, rfl, hl⟩ := un_reqs' h2
  obtain ⟨m, rfl, hm⟩ := un_marker h3
  obtain ⟨s, rfl, hs⟩ := un_string h4
  obtain ⟨n, rfl, hn⟩ := un_i64 h5
  unfold reachBytes at hs
  exact ⟨⟨a, l, m, s, n⟩, rfl, ⟨hl.len, hl.all, hm.1, by simp only; omega, hm.2, wf_in hn⟩⟩
end Go.Proofs.Ytpnihinmlmoogaa

/- The codec of entries, plainly; no program. -/
namespace Go.Proofs.Ytpnihinmlmoogaa
open Go Ab Go.RowKit

theorem mZ_eq {m : Mk} (h : mZ m = true) : m = m0 := by
  obtain ⟨k, p, w, d, n, y⟩ := m
  simp only [mZ, Bool.and_eq_true, beq_iff_eq] at h
  obtain ⟨rfl, rfl, rfl, rfl, rfl, hy, _⟩ := h
  rw [nil_of (s := y) (by simpa using hy)]; rfl
theorem unB_eq {e : En} (h : unB e = true) : (e.kd ≠ 2 → e.ba = []) ∧ (e.kd ≠ 3 → e.m = m0) ∧ (e.kd ≠ 4 → e.sr = ⟨#[]⟩) ∧ (e.kd ≠ 5 → e.n = 0) := by
  have hl : ∀ {l : List Req}, lZ l = true → l = [] := fun h => List.length_eq_zero_iff.1 (lZ_of h)
  have hs : ∀ {s : ByteArray}, sZ s = true → s = ⟨#[]⟩ := fun h => nil_of h
  unfold unB at h
  split at h
  · rename_i hk
    simp only [Bool.and_eq_true, beq_iff_eq] at h
    exact ⟨fun hn => absurd hk hn, fun _ => mZ_eq h.1.1, fun _ => hs h.1.2, fun _ => h.2⟩
  · split at h
    · rename_i hk
      simp only [Bool.and_eq_true, beq_iff_eq] at h
      exact ⟨fun _ => hl h.1.1, fun hn => absurd hk hn, fun _ => hs h.1.2, fun _ => h.2⟩
    · split at h
      · rename_i hk
        simp only [Bool.and_eq_true, beq_iff_eq] at h
        exact ⟨fun _ => hl h.1.1, fun _ => mZ_eq h.1.2, fun hn => absurd hk hn, fun _ => h.2⟩
      · split at h
        · rename_i hk
          simp only [Bool.and_eq_true] at h
          exact ⟨fun _ => hl h.1.1, fun _ => mZ_eq h.1.2, fun _ => hs h.2, fun hn => absurd hk hn⟩
        · split at h
          · simp only [Bool.and_eq_true, beq_iff_eq] at h
            exact ⟨fun _ => hl h.1.1.1, fun _ => mZ_eq h.1.1.2, fun _ => hs h.1.2, fun _ => h.2⟩
          · cases h
theorem enE_un {e : En} (h : enE e = 0) : unB e = true := by
  unfold enE at h
  split at h
  · cases h
  · rename_i hu; simpa using hu
theorem firstE_all : ∀ (l : List Req), firstE l = 0 → ∀ r ∈ l, reqE r = 0
  | [], _, r, h => by cases h
  | x :: l, h, r, hr => by
    unfold firstE at h
    split at h
    · rename_i hx; exact absurd h hx
    · rename_i hx
      rcases List.mem_cons.1 hr with rfl | hr
      · simpa using hx
      · exact firstE_all l h r hr
theorem enE_ba {e : En} (h : enE e = 0) (hk : e.kd = 2) : goodL e.ba := by
  unfold enE at h
  split at h
  · cases h
  · have h : (if 32 < e.ba.length then (2 : Int) else firstE e.ba) = 0 := by simpa [hk] using h
    split at h
    · cases h
    · exact ⟨by omega, firstE_all _ h⟩
def enL (e : En) : List UInt8 :=
  Cw.vint e.kd.toNat ++ (if e.kd = 2 then (encReqs e.ba).data.toList else if e.kd = 3 then Cw.vint e.m.k.toNat ++ (Cw.vint e.m.p.toNat ++ (Cw.vint e.m.w.toNat ++ (Cw.vint e.m.d.toNat ++ (Cw.vint e.m.n.toNat ++ Cw.text e.m.y.data.toList)))) else if e.kd = 4 then Cw.text e.sr.data.toList else if e.kd = 5 then Cw.vint e.n.toNat else [])
theorem enS_L (e : En) : (enS e).data.toList = enL e := by
  unfold enS enL
  by_cases k2 : e.kd = 2
  · rw [if_pos k2, if_pos k2, app_L, k2]; rfl
  rw [if_neg k2, if_neg k2]
  by_cases k3 : e.kd = 3
  · rw [if_pos k3, if_pos k3, app_L, k3]
    have : mkH e.m 5 = ((((vintB 3 ++ vintB e.m.k.toNat) ++ vintB e.m.p.toNat) ++ vintB e.m.w.toNat) ++ vintB e.m.d.toNat) ++ vintB e.m.n.toNat := rfl
    rw [this]
    simp only [app_L, List.append_assoc]
    rfl
  rw [if_neg k3, if_neg k3]
  by_cases k4 : e.kd = 4
  · rw [if_pos k4, if_pos k4, app_L, k4]; rfl
  rw [if_neg k4, if_neg k4]
  by_cases k5 : e.kd = 5
  · rw [if_pos k5, if_pos k5, app_L, k5]; rfl
  rw [if_neg k5, if_neg k5, List.append_nil]; rfl
theorem lim_of {u : Nat} (h : u ≤ 1099511627776) : lim u = (u : Int) := if_neg (by omega)
theorem big_of {u : Nat} (h : u ≤ 1099511627776) : big40 u = false := by simp [big40]; omega
theorem big_le {u : Nat} (h : big40 u = false) : u ≤ 1099511627776 := by simp [big40] at h; omega
theorem restE_RT (e : En) (hf : e.fit) (h0 : enE e = 0) (l : List UInt8) (a n : Int)
    (h : At l a n (if e.kd = 2 then (encReqs e.ba).data.toList else if e.kd = 3 then Cw.vint e.m.k.toNat ++ (Cw.vint e.m.p.toNat ++ (Cw.vint e.m.w.toNat ++ (Cw.vint e.m.d.toNat ++ (Cw.vint e.m.n.toNat ++ Cw.text e.m.y.data.toList)))) else if e.kd = 4 then Cw.text e.sr.data.toList else if e.kd = 5 then Cw.vint e.n.toNat else [])) :
    restE e.kd l a = (e, n, 0, false) := by
  obtain ⟨u1, u2, u3, u4⟩ := unB_eq (enE_un h0)
  have hgood := @enE_ba e h0
  have hmk := @enE_mk e h0
  have hn := @enE_n e h0
  have hsr := @enE_sr e h0
  have hall := hf.all
  obtain ⟨kd, ba, m, sr, nn⟩ := e
  simp only at u1 u2 u3 u4 hgood hmk hn hsr hall h ⊢
  unfold restE
  by_cases k2 : kd = 2
  · rw [if_pos k2] at h ⊢
    have hr := decReqs_RT l a n ba (hgood k2) hall h
    rw [hr, u2 (by omega), u3 (by omega), u4 (by omega)]
  rw [if_neg k2] at h ⊢
  rw [u1 k2]
  by_cases k3 : kd = 3
  · rw [if_pos k3] at h ⊢
    have hm := hmk k3
    obtain ⟨b1, g1, h⟩ := h.cut
    obtain ⟨b2, g2, h⟩ := h.cut
    obtain ⟨b3, g3, h⟩ := h.cut
    obtain ⟨b4, g4, h⟩ := h.cut
    obtain ⟨b5, g5, h⟩ := h.cut
    have mk := hm.k; have mp := hm.p; have mw := hm.w; have md := hm.d; have mn := hm.n
    have my := bound_size hm.y
    have e1 : nmS l a 1 = (m.k.toNat, b1, 0) := by show rdU l a 0 = _; rw [rdU_ok, takeU_RT g1 (by rw [Cw.m64]; omega)]
    have e2 : nmS l a 2 = (m.p.toNat, b2, 0) := by show rdU l (nmS l a 1).2.1 (nmS l a 1).2.2 = _; rw [e1]; simp only [rdU_ok]; rw [takeU_RT g2 (by rw [Cw.m64]; omega)]
    have e3 : nmS l a 3 = (m.w.toNat, b3, 0) := by show rdU l (nmS l a 2).2.1 (nmS l a 2).2.2 = _; rw [e2]; simp only [rdU_ok]; rw [takeU_RT g3 (by rw [Cw.m64]; omega)]
    have e4 : nmS l a 4 = (m.d.toNat, b4, 0) := by show rdU l (nmS l a 3).2.1 (nmS l a 3).2.2 = _; rw [e3]; simp only [rdU_ok]; rw [takeU_RT g4 (by rw [Cw.m64]; omega)]
    have e5 : nmS l a 5 = (m.n.toNat, b5, 0) := by show rdU l (nmS l a 4).2.1 (nmS l a 4).2.2 = _; rw [e4]; simp only [rdU_ok]; rw [takeU_RT g5 (by rw [Cw.m64]; omega)]
    have e6 : mkT l a = (m.y.data.toList, n, 0) := by unfold mkT; rw [e5]; simp only [rdT_ok]; rw [takeT_RT h (by rw [dsize, Cw.m64]; omega) (by rw [dsize]; omega)]
    have ex : mkX l a = m := by
      unfold mkX
      rw [e1, e2, e3, e4, e5, e6]
      simp only []
      rw [lim_of (by omega), lim_of (by omega), lim_of (by omega), lim_of (by omega), lim_of (by omega), mk_L]
      obtain ⟨k, p, w, d, n, y⟩ := m
      simp only at mk mp mw md mn ⊢
      rw [show ((k.toNat : Nat) : Int) = k by omega, show ((p.toNat : Nat) : Int) = p by omega, show ((w.toNat : Nat) : Int) = w by omega, show ((d.toNat : Nat) : Int) = d by omega, show ((n.toNat : Nat) : Int) = n by omega]
    have eb : mkBig l a = false := by
      unfold mkBig
      rw [e1, e2, e3, e4, e5]
      simp only []
      rw [big_of (by omega), big_of (by omega), big_of (by omega), big_of (by omega), big_of (by omega)]; rfl
    rw [ex, eb, e6, u3 (by omega), u4 (by omega)]
  rw [if_neg k3] at h ⊢
  rw [u2 k3]
  by_cases k4 : kd = 4
  · rw [if_pos k4] at h ⊢
    have hs := (hsr k4).1
    rw [takeT_RT h (by rw [dsize, Cw.m64]; omega) (by rw [dsize]; omega)]
    simp only []
    rw [mk_L, u4 (by omega)]
  rw [if_neg k4] at h ⊢
  rw [u3 k4]
  by_cases k5 : kd = 5
  · rw [if_pos k5] at h ⊢
    have hn := hn k5
    rw [takeU_RT h (by rw [Cw.m64]; omega)]
    simp only []
    rw [lim_of (by omega), big_of (by omega), show ((nn.toNat : Nat) : Int) = nn by omega]
  rw [if_neg k5] at h ⊢
  rw [u4 k5]
  have hl := h.len
  simp only [List.length_nil, Int.ofNat_eq_natCast, Int.natCast_zero, Int.add_zero] at hl
  rw [hl.2.1]
theorem decE_RT (e : En) (hf : e.fit) (h0 : enE e = 0) (hz : (enS e).size ≤ 4096) : decE (enS e).data.toList = (e, 0) := by
  have hkd := enE_kd h0
  have hL := enS_L e
  have hlen : (enS e).data.toList.length = (enS e).size := dsize _
  have hA : At (enS e).data.toList 0 ((enS e).data.toList.length : Int) (enL e) := by
    rw [hL]
    have := At.whole [] (enL e) []
    simpa using this
  unfold enL at hA
  obtain ⟨b, g1, g2⟩ := hA.cut
  have hU := takeU_RT g1 (by rw [Cw.m64]; omega)
  have hR := restE_RT e hf h0 _ b _ g2
  have hk : ((e.kd.toNat : Nat) : Int) = e.kd := by omega
  unfold decE
  rw [if_neg (by omega), hU]
  simp only [ne_eq, not_true_eq_false, if_false]
  rw [if_neg (by omega), hk, hR]
  simp [h0]
theorem decE_err (l : List UInt8) (h : (decE l).2 ≠ 0) : (decE l).1 = en0 := by
  unfold decE at h ⊢
  split
  · rfl
  · split
    · rfl
    · split
      · rfl
      · split
        · rfl
        · split
          · rfl
          · split
            · rfl
            · rename_i h1 h2 h3 h4 h5 h6
              rw [if_neg h1, if_neg h2, if_neg h3, if_neg h4, if_neg h5, if_neg h6] at h
              exact absurd rfl h
theorem three {α : Type} {x : α × Int × Int} (h : x.2.2 = 0) : x = (x.1, x.2.1, 0) := by rw [← h]
theorem restE_IS (kd : Nat) (l : List UInt8) (a : Int) (hl : l.length ≤ 4096) (hk : 1 ≤ kd ∧ kd ≤ 5) (h0 : 0 ≤ a) (h1 : a ≤ l.length) (he : (restE kd l a).2.2.1 = 0) (hb : (restE kd l a).2.2.2 = false) :
    At l a (restE kd l a).2.1 (if (restE kd l a).1.kd = 2 then (encReqs (restE kd l a).1.ba).data.toList else if (restE kd l a).1.kd = 3 then Cw.vint (restE kd l a).1.m.k.toNat ++ (Cw.vint (restE kd l a).1.m.p.toNat ++ (Cw.vint (restE kd l a).1.m.w.toNat ++ (Cw.vint (restE kd l a).1.m.d.toNat ++ (Cw.vint (restE kd l a).1.m.n.toNat ++ Cw.text (restE kd l a).1.m.y.data.toList)))) else if (restE kd l a).1.kd = 4 then Cw.text (restE kd l a).1.sr.data.toList else if (restE kd l a).1.kd = 5 then Cw.vint (restE kd l a).1.n.toNat else []) := by
  rw [(restE_kd kd l a).1]
  unfold restE at he hb ⊢
  by_cases k2 : (kd : Int) = 2
  · simp only [if_pos k2] at he hb ⊢
    exact (decReqs_IS l a _ _ (by omega) (three he)).1
  simp only [if_neg k2] at he hb ⊢
  by_cases k3 : (kd : Int) = 3
  · simp only [if_pos k3] at he hb ⊢
    have z : ∀ k, k ≤ 5 → (nmS l a k).2.2 = 0 := fun k hk => Classical.byContradiction fun hq => by rw [mkT_of l a k hk hq] at he; exact hq he
    have ok : ∀ k, k < 5 → At l (nmS l a k).2.1 (nmS l a (k + 1)).2.1 (Cw.vint (nmS l a (k + 1)).1) := fun k hk => by
      have e : nmS l a (k + 1) = Cw.takeU l (nmS l a k).2.1 := by
        show rdU l (nmS l a k).2.1 (nmS l a k).2.2 = _
        rw [z k (by omega), rdU_ok]
      exact (takeU_IS (e.symm.trans (three (z (k + 1) (by omega))))).1
    have hT : mkT l a = Cw.takeT l (nmS l a 5).2.1 24 := by unfold mkT; rw [z 5 (by omega), rdT_ok]
    have aT := takeT_IS (hT.symm.trans (three he))
    unfold mkBig at hb
    simp only [Bool.or_eq_false_iff] at hb
    obtain ⟨⟨⟨⟨c1, c2⟩, c3⟩, c4⟩, c5⟩ := hb
    have l1 := lim_of (big_le c1)
    have l2 := lim_of (big_le c2)
    have l3 := lim_of (big_le c3)
    have l4 := lim_of (big_le c4)
    have l5 := lim_of (big_le c5)
    unfold mkX
    simp only []
    rw [l1, l2, l3, l4, l5]
    simp only [Int.toNat_natCast]
    exact (ok 0 (by omega)).trans ((ok 1 (by omega)).trans ((ok 2 (by omega)).trans ((ok 3 (by omega)).trans ((ok 4 (by omega)).trans aT))))
  simp only [if_neg k3] at he hb ⊢
  by_cases k4 : (kd : Int) = 4
  · simp only [if_pos k4] at he hb ⊢
    exact takeT_IS (three he)
  simp only [if_neg k4] at he hb ⊢
  by_cases k5 : (kd : Int) = 5
  · simp only [if_pos k5] at he hb ⊢
    rw [lim_of (big_le hb), Int.toNat_natCast]
    exact (takeU_IS (three he)).1
  simp only [if_neg k5] at he hb ⊢
  exact At.refl h0 h1
theorem decE_IS (s : ByteArray) (h : (decE s.data.toList).2 = 0) : encE (decE s.data.toList).1 = (s, 0) ∧ (decE s.data.toList).1.fit := by
  have hd := dsize s
  generalize hl0 : s.data.toList = l at h hd ⊢
  unfold decE at h ⊢
  by_cases c1 : 4096 < l.length
  · rw [if_pos c1] at h; cases h
  rw [if_neg c1] at h ⊢
  by_cases c2 : (Cw.takeU l 0).2.2 = 0
  rotate_left
  · rw [if_pos c2] at h; exact absurd h c2
  rw [if_neg (by simpa using c2)] at h ⊢
  have hA := (takeU_IS (three c2)).1
  have hRT := fun k (h1 : 1 ≤ k ∧ k ≤ 5) (h2 : 0 ≤ (Cw.takeU l 0).2.1) (h3 : (Cw.takeU l 0).2.1 ≤ l.length) => restE_IS k l (Cw.takeU l 0).2.1 (by omega) h1 h2 h3
  have hF0 := fun k => restE_fit k l (Cw.takeU l 0).2.1 (by omega)
  have hK0 := fun k => restE_kd k l (Cw.takeU l 0).2.1
  generalize Cw.takeU l 0 = U at h hA hRT hF0 hK0 ⊢
  obtain ⟨kd, a, e⟩ := U
  simp only at h hA hRT hF0 hK0 ⊢
  by_cases c3 : kd < 1 ∨ 5 < kd
  · rw [if_pos c3] at h; cases h
  rw [if_neg c3] at h ⊢
  have hl := hA.len
  have hR := hRT kd (by omega) (by omega) (by omega)
  have hF := hF0 kd
  have hK := (hK0 kd).1
  generalize restE kd l a = R at h hR hF hK ⊢
  obtain ⟨x, n, e2, big⟩ := R
  simp only at h hR hF hK ⊢
  by_cases c4 : e2 = 0
  rotate_left
  · rw [if_pos c4] at h; exact absurd h c4
  rw [if_neg (by simpa using c4)] at h ⊢
  by_cases c5 : n ≠ l.length ∨ big = true
  · rw [if_pos c5] at h; cases h
  rw [if_neg c5] at h ⊢
  have hn : n = l.length := Classical.byContradiction fun hq => c5 (.inl hq)
  have hb : big = false := by cases big with | false => rfl | true => exact absurd (.inr rfl) c5
  by_cases c6 : enE x = 0
  rotate_left
  · rw [if_pos c6] at h; exact absurd h c6
  rw [if_neg (by simpa using c6)]
  simp only
  have hb2 := hR c4 hb
  have hw := (hA.trans hb2).eq
  have hk : x.kd.toNat = kd := by omega
  have hS : (enS x).data.toList = l := by
    rw [enS_L]
    unfold enL
    rw [hk, hw, hn]
    simp
  have hs : enS x = s := by apply ByteArray.ext; apply Array.ext'; rw [hS, hl0]
  refine ⟨?_, hF⟩
  unfold encE
  rw [if_neg (by simpa using c6), hs, if_neg (by omega)]
theorem decE_fit (l : List UInt8) (hl : l.length ≤ 1073741824) : (decE l).1.fit := by
  have z : en0.fit := xfit _ rfl (by decide) (by decide) (by decide) (by decide)
  unfold decE
  split
  · exact z
  · split
    · exact z
    · split
      · exact z
      · split
        · exact z
        · split
          · exact z
          · split
            · exact z
            · exact restE_fit _ l _ hl
theorem eqL_eq {α : Type} (f : α → α → Bool) (h : ∀ x y, f x y = true → x = y) : ∀ (a b : List α), eqL f a b = true → a = b
  | [], [], _ => rfl
  | x :: a, y :: b, hq => by
    simp only [eqL, Bool.and_eq_true] at hq
    rw [h x y hq.1, eqL_eq f h a b hq.2]
  | [], _ :: _, hq => by simp [eqL] at hq
  | _ :: _, [], hq => by simp [eqL] at hq
theorem reqEq_eq (a b : Req) (h : reqEq a b = true) : a = b := by
  obtain ⟨cl, sq, pr, args, dc, al, rd, wt⟩ := a
  obtain ⟨cl', sq', pr', args', dc', al', rd', wt'⟩ := b
  simp only [reqEq, Bool.and_eq_true, beq_iff_eq] at h
  obtain ⟨⟨⟨⟨⟨⟨⟨rfl, rfl⟩, h3⟩, h4⟩, rfl⟩, rfl⟩, h7⟩, h8⟩ := h
  have hs : ∀ x y : ByteArray, strEq x y = true → x = y := fun x y h => bs_eq (by simpa [strEq] using h)
  have hv : ∀ x y : Vl, vlEqq x y = true → x = y := fun x y h => by
    obtain ⟨k, n, s⟩ := x
    obtain ⟨k', n', s'⟩ := y
    simp only [vlEqq, Bool.and_eq_true, beq_iff_eq] at h
    obtain ⟨rfl, rfl, h3, _⟩ := h
    rw [bs_eq h3]
  rw [bs_eq h3, eqL_eq _ hv _ _ h4, eqL_eq _ hs _ _ h7, eqL_eq _ hs _ _ h8]
theorem enEq_eq (a b : En) (h : enEq a b = true) : a = b := by
  obtain ⟨kd, ba, ⟨mk, mp, mw, md, mn, my⟩, sr, n⟩ := a
  obtain ⟨kd', ba', ⟨mk', mp', mw', md', mn', my'⟩, sr', n'⟩ := b
  simp only [enEq, mEq, reqsEq, Bool.and_eq_true, beq_iff_eq] at h
  obtain ⟨⟨⟨⟨rfl, h2⟩, rfl, rfl, rfl, rfl, rfl, h3, _⟩, h4⟩, rfl⟩ := h
  rw [eqL_eq _ reqEq_eq _ _ h2, bs_eq h3, bs_eq h4]
theorem encE_ok {e : En} {s : ByteArray} (h : encE e = (s, 0)) : enE e = 0 ∧ s = enS e ∧ (enS e).size ≤ 4096 := by
  unfold encE at h
  by_cases c1 : enE e = 0
  · rw [if_neg (by simpa using c1)] at h
    by_cases c2 : 4096 < (enS e).size
    · rw [if_pos c2] at h; simp at h
    · rw [if_neg c2] at h
      simp only [Prod.mk.injEq] at h
      exact ⟨c1, h.1.symm, by omega⟩
  · rw [if_pos c1] at h
    simp only [Prod.mk.injEq] at h
    exact absurd h.2 c1
theorem encE_none {e : En} (h : (encE e).2 ≠ 0) : (encE e).1 = ⟨#[]⟩ := by
  unfold encE at h ⊢
  split
  · rfl
  · split
    · rfl
    · rename_i h1 h2
      rw [if_neg h1, if_neg h2] at h
      exact absurd rfl h
theorem enS_pos (e : En) (h : enE e = 0) : 1 ≤ (enS e).size := by
  have hk := enE_kd h
  rw [← dsize, enS_L]
  unfold enL
  have := vint_pos e.kd.toNat (by rw [Cw.m64]; omega)
  rw [List.length_append]; omega
end Go.Proofs.Ytpnihinmlmoogaa

/- Chapter 39: laws. -/
namespace Go.Proofs.Ytpnihinmlmoogaa
open Go Ab Go.RowKit
set_option maxRecDepth 100000
attribute [local irreducible] awp aops aop asoft aeff aloop acall acallI acallT
attribute [local go_sem] Vl.row sRow

theorem rowe (e : En) : e.row = [.int .i64 e.kd, .slice 8 (e.ba.map Req.row), .int .i64 e.m.k, .int .i64 e.m.p, .int .i64 e.m.w, .int .i64 e.m.d, .int .i64 e.m.n, .str e.m.y, .str e.sr, .int .i64 e.n] := rfl
theorem En.fit.len {e : En} (h : e.fit) : e.ba.length ≤ 9223372036854775807 := by have := h.ba; omega
theorem En.fit.fs {e : En} (h : e.fit) : ∀ r ∈ e.ba, r.fits := fun r hr => (h.all r hr).fits
set_option maxHeartbeats 4000000 in
theorem EntryValidates_den (a b : En) (ha : a.fit) : PDen Try.prog 5 [.agg a.row, .agg b.row] (.a (.bool true)) := by
  have fa := few39_den a
  have fb := few39_den b
  have e1 := valid_den a ha
  have e2 := rvalid_den a ha
  have s1 := esame_den a b ha.len ha.fs
  have s2 := resame_den a b ha.len ha.fs
  have s3 := esame_den a a ha.len ha.fs
  rw [enEq_refl] at s3
  rw [rowe a] at fa e1 e2 s1 s2 s3 ⊢
  rw [rowe b] at fb s1 s2 ⊢
  refine den_of_body k_law39_EntryValidates ⟨rfl, Nat.le_of_ble_eq_true rfl, thaw_intro ?_⟩
  unfold c_law39_EntryValidates
  simp only [go_sem]
  refine t_call_intro (fa) ?_
  cases h1 : fewE a with
  | false =>
    simp only [go_sem]
    refine t_call_intro (works39_den) ?_
    simp only [go_sem]
    simp only [aresult, ares, go_sem]
  | true =>
    simp only [go_sem]
    refine t_call_intro (fb) ?_
    cases h2 : fewE b with
    | false =>
      simp only [go_sem]
      refine t_call_intro (works39_den) ?_
      simp only [go_sem]
      simp only [aresult, ares, go_sem]
    | true =>
      simp only [go_sem]
      refine t_call_intro (e1) ?_
      simp only [go_sem]
      refine t_call_intro (e2) ?_
      simp only [beq_self_eq_true, go_sem]
      refine t_call_intro (s1) ?_
      simp only [go_sem]
      refine t_call_intro (s2) ?_
      simp only [beq_self_eq_true, go_sem]
      refine t_call_intro (s3) ?_
      simp only [go_sem]
      refine t_call_intro (works39_den) ?_
      simp only [go_sem]
      simp only [aresult, ares, go_sem]
set_option maxHeartbeats 4000000 in
theorem EntryEncodes_den (a : En) (ha : a.fit) : PDen Try.prog 6 [.agg a.row] (.a (.bool true)) := by
  have fa := few39_den a
  have e1 := encE_den a ha
  have e2 := rencE_den a ha
  unfold encEV at e1 e2
  rw [rowe a] at fa e1 e2 ⊢
  refine den_of_body k_law39_EntryEncodes ⟨rfl, Nat.le_of_ble_eq_true rfl, thaw_intro ?_⟩
  unfold c_law39_EntryEncodes
  simp only [go_sem]
  refine t_call_intro (fa) ?_
  cases h1 : fewE a with
  | false =>
    simp only [go_sem]
    refine t_call_intro (works39_den) ?_
    simp only [go_sem]
    simp only [aresult, ares, go_sem]
  | true =>
    simp only [go_sem]
    refine t_call_intro (e1) ?_
    simp only [go_sem]
    refine t_call_intro (e2) ?_
    simp only [beq_self_eq_true, go_sem]
    refine t_call_intro (works39_den) ?_
    simp only [go_sem]
    simp only [aresult, ares, go_sem]
set_option maxHeartbeats 4000000 in
theorem EntryDecodes_den (s : ByteArray) : PDen Try.prog 7 [.a (.str s)] (.a (.bool true)) := by
  by_cases hs : s.size ≤ 6000
  rotate_left
  · have q : (6000 : Int) < (s.size : Int) := by omega
    refine den_of_body k_law39_EntryDecodes ⟨rfl, Nat.le_of_ble_eq_true rfl, thaw_intro ?_⟩
    unfold c_law39_EntryDecodes
    simp only [q, go_sem]
    refine t_call_intro (works39_den) ?_
    simp only [go_sem]
    simp only [aresult, ares, go_sem]
  have q : ¬ (6000 : Int) < (s.size : Int) := by omega
  have d1 := edec_den s (by omega)
  have d2 := redec_den s (by omega)
  have hf : (decE s.data.toList).1.fit := decE_fit _ (by rw [dsize]; omega)
  unfold decEV at d1 d2
  generalize decE s.data.toList = X at d1 d2 hf
  obtain ⟨x, e⟩ := X
  simp only at d1 d2 hf
  have sm := resame_den x x hf.len hf.fs
  rw [enEq_refl] at sm
  rw [rowe x] at d1 d2 sm
  refine den_of_body k_law39_EntryDecodes ⟨rfl, Nat.le_of_ble_eq_true rfl, thaw_intro ?_⟩
  unfold c_law39_EntryDecodes
  simp only [q, go_sem]
  refine t_call_intro (d1) ?_
  simp only [go_sem]
  refine t_call_intro (d2) ?_
  simp only [go_sem]
  refine t_call_intro (sm) ?_
  simp only [beq_self_eq_true, go_sem]
  refine t_call_intro (works39_den) ?_
  simp only [go_sem]
  simp only [aresult, ares, go_sem]
theorem nb_of {s : ByteArray} (h : 1 ≤ s.size) : (s.toList == []) = false := by rw [size0]; exact decide_eq_false (by omega)
set_option maxHeartbeats 4000000 in
theorem EntryRoundTrips_den (x : En) (s : ByteArray) (hx : x.fit) : PDen Try.prog 8 [.agg x.row, .a (.str s)] (.a (.bool true)) := by
  have fa := few39_den x
  have en := encE_den x hx
  have sm := resame_den x x hx.len hx.fs
  have sz := resame_den en0 en0 (by decide) (fun r h => by cases h)
  rw [enEq_refl] at sm sz
  have sz : PDen Try.prog 20 [.agg en0.row, .agg (rawE en0)] (.a (.bool true)) := sz.args ⟨VLe.refl _, VLe.agg (rawE_le _ rfl), trivial⟩
  unfold encEV at en
  cases h1 : fewE x with
  | false =>
    rw [h1] at fa
    rw [rowe x] at fa ⊢
    refine den_of_body k_law39_EntryRoundTrips ⟨rfl, Nat.le_of_ble_eq_true rfl, thaw_intro ?_⟩
    unfold c_law39_EntryRoundTrips
    simp only [go_sem]
    refine t_call_intro (fa) ?_
    simp only [go_sem]
    refine t_call_intro (works39_den) ?_
    simp only [go_sem]
    simp only [aresult, ares, go_sem]
  | true =>
  rw [h1] at fa
  by_cases hs : s.size ≤ 6000
  rotate_left
  · have q : (6000 : Int) < (s.size : Int) := by omega
    rw [rowe x] at fa ⊢
    refine den_of_body k_law39_EntryRoundTrips ⟨rfl, Nat.le_of_ble_eq_true rfl, thaw_intro ?_⟩
    unfold c_law39_EntryRoundTrips
    simp only [go_sem]
    refine t_call_intro (fa) ?_
    simp only [q, go_sem]
    refine t_call_intro (works39_den) ?_
    simp only [go_sem]
    simp only [aresult, ares, go_sem]
  have q : ¬ (6000 : Int) < (s.size : Int) := by omega
  have d1 := edec_den s (by omega)
  have herr := decE_err s.data.toList
  have hIS := decE_IS s
  unfold decEV at d1
  generalize decE s.data.toList = X at d1 herr hIS
  obtain ⟨y, e⟩ := X
  simp only at d1 herr hIS
  by_cases he : (encE x).2 = 0
  · have hE : encE x = ((encE x).1, 0) := by rw [← he]
    obtain ⟨k1, k2, k3⟩ := encE_ok hE
    have d2 := edec_den (enS x) (by omega)
    rw [decE_RT x hx k1 k3] at d2
    unfold decEV at d2
    simp only at d2
    have hp := nb_of (enS_pos x k1)
    rw [he, k2] at en
    rw [rowe x] at fa en d2 sm ⊢
    by_cases he2 : e = 0
    · subst he2
      obtain ⟨i1, i2⟩ := hIS rfl
      have e3 := encE_den y i2
      rw [i1] at e3
      unfold encEV at e3
      rw [rowe y] at d1 e3
      refine den_of_body k_law39_EntryRoundTrips ⟨rfl, Nat.le_of_ble_eq_true rfl, thaw_intro ?_⟩
      unfold c_law39_EntryRoundTrips
      simp only [go_sem]
      refine t_call_intro (fa) ?_
      simp only [q, go_sem]
      refine t_call_intro (en) ?_
      simp only [beq_self_eq_true, go_sem]
      refine t_call_intro (d2) ?_
      simp only [z00, go_sem]
      refine t_call_intro (sm) ?_
      simp only [hp, e00, go_sem]
      refine t_call_intro (d1) ?_
      simp only [z00, go_sem]
      refine t_call_intro (e3) ?_
      simp only [beq_self_eq_true, go_sem]
      refine t_call_intro (works39_den) ?_
      simp only [go_sem]
      simp only [aresult, ares, go_sem]
    · have n2 : (e != 0) = true := by simpa using he2
      rw [herr he2] at d1
      unfold rawE en0 m0 at sz
      rw [rowe] at sz
      rw [rowe en0] at d1
      unfold en0 m0 at d1
      simp only at sz d1
      refine den_of_body k_law39_EntryRoundTrips ⟨rfl, Nat.le_of_ble_eq_true rfl, thaw_intro ?_⟩
      unfold c_law39_EntryRoundTrips
      simp only [go_sem]
      refine t_call_intro (fa) ?_
      simp only [q, go_sem]
      refine t_call_intro (en) ?_
      simp only [beq_self_eq_true, go_sem]
      refine t_call_intro (d2) ?_
      simp only [z00, go_sem]
      refine t_call_intro (sm) ?_
      simp only [hp, e00, go_sem]
      refine t_call_intro (d1) ?_
      simp only [n2, go_sem]
      refine t_call_intro (sz) ?_
      simp only [go_sem]
      refine t_call_intro (works39_den) ?_
      simp only [go_sem]
      simp only [aresult, ares, go_sem]
  · have n1 : ((encE x).2 == 0) = false := by simpa using he
    rw [rowe x] at fa en ⊢
    by_cases he2 : e = 0
    · subst he2
      obtain ⟨i1, i2⟩ := hIS rfl
      have e3 := encE_den y i2
      rw [i1] at e3
      unfold encEV at e3
      rw [rowe y] at d1 e3
      refine den_of_body k_law39_EntryRoundTrips ⟨rfl, Nat.le_of_ble_eq_true rfl, thaw_intro ?_⟩
      unfold c_law39_EntryRoundTrips
      simp only [go_sem]
      refine t_call_intro (fa) ?_
      simp only [q, go_sem]
      refine t_call_intro (en) ?_
      simp only [n1, go_sem]
      refine t_call_intro (d1) ?_
      simp only [z00, go_sem]
      refine t_call_intro (e3) ?_
      simp only [beq_self_eq_true, go_sem]
      refine t_call_intro (works39_den) ?_
      simp only [go_sem]
      simp only [aresult, ares, go_sem]
    · have n2 : (e != 0) = true := by simpa using he2
      rw [herr he2] at d1
      unfold rawE en0 m0 at sz
      rw [rowe] at sz
      rw [rowe en0] at d1
      unfold en0 m0 at d1
      simp only at sz d1
      refine den_of_body k_law39_EntryRoundTrips ⟨rfl, Nat.le_of_ble_eq_true rfl, thaw_intro ?_⟩
      unfold c_law39_EntryRoundTrips
      simp only [go_sem]
      refine t_call_intro (fa) ?_
      simp only [q, go_sem]
      refine t_call_intro (en) ?_
      simp only [n1, go_sem]
      refine t_call_intro (d1) ?_
      simp only [n2, go_sem]
      refine t_call_intro (sz) ?_
      simp only [go_sem]
      refine t_call_intro (works39_den) ?_
      simp only [go_sem]
      simp only [aresult, ares, go_sem]
theorem none_eq : ((⟨#[]⟩ : ByteArray).toList == []) = true := by rw [e00]; rfl
set_option maxHeartbeats 4000000 in
theorem EntryDistinct_den (x y : En) (hx : x.fit) (hy : y.fit) : PDen Try.prog 9 [.agg x.row, .agg y.row] (.a (.bool true)) := by
  have fa := few39_den x
  have fb := few39_den y
  have e1 := encE_den x hx
  have e2 := encE_den y hy
  have s1 := esame_den x y hx.len hx.fs
  have s2 := resame_den x y hx.len hx.fs
  unfold encEV at e1 e2
  have key : (encE x).2 = 0 → (encE y).2 = 0 → ((encE x).1.toList == (encE y).1.toList) = enEq x y := fun h1 h2 => by
    obtain ⟨k1, k2, k3⟩ := encE_ok (show encE x = ((encE x).1, 0) by rw [← h1])
    obtain ⟨j1, j2, j3⟩ := encE_ok (show encE y = ((encE y).1, 0) by rw [← h2])
    rw [k2, j2]
    cases hq : enEq x y with
    | true => rw [enEq_eq x y hq]; simp
    | false =>
      rw [beq_eq_false_iff_ne]
      intro h
      have hb := bs_eq h
      have r1 := decE_RT x hx k1 k3
      have r2 := decE_RT y hy j1 j3
      rw [hb, r2] at r1
      have : y = x := congrArg Prod.fst r1
      rw [this, enEq_refl] at hq
      cases hq
  have ex := @encE_none x
  have ey := @encE_none y
  rw [rowe x] at fa e1 s1 s2 ⊢
  rw [rowe y] at fb e2 s1 s2 ⊢
  generalize encE x = X at e1 key ex
  generalize encE y = Y at e2 key ey
  obtain ⟨s, e⟩ := X
  obtain ⟨t, f⟩ := Y
  simp only at e1 e2 key ex ey
  cases h1 : fewE x with
  | false =>
    rw [h1] at fa
    refine den_of_body k_law39_EntryDistinct ⟨rfl, Nat.le_of_ble_eq_true rfl, thaw_intro ?_⟩
    unfold c_law39_EntryDistinct
    simp only [go_sem]
    refine t_call_intro (fa) ?_
    simp only [go_sem]
    refine t_call_intro (works39_den) ?_
    simp only [go_sem]
    simp only [aresult, ares, go_sem]
  | true =>
  rw [h1] at fa
  cases h2 : fewE y with
  | false =>
    rw [h2] at fb
    refine den_of_body k_law39_EntryDistinct ⟨rfl, Nat.le_of_ble_eq_true rfl, thaw_intro ?_⟩
    unfold c_law39_EntryDistinct
    simp only [go_sem]
    refine t_call_intro (fa) ?_
    simp only [go_sem]
    refine t_call_intro (fb) ?_
    simp only [go_sem]
    refine t_call_intro (works39_den) ?_
    simp only [go_sem]
    simp only [aresult, ares, go_sem]
  | true =>
  rw [h2] at fb
  by_cases he : e = 0
  · by_cases hf : f = 0
    · have kq := key he hf
      subst he
      subst hf
      refine den_of_body k_law39_EntryDistinct ⟨rfl, Nat.le_of_ble_eq_true rfl, thaw_intro ?_⟩
      unfold c_law39_EntryDistinct
      simp only [go_sem]
      refine t_call_intro (fa) ?_
      simp only [go_sem]
      refine t_call_intro (fb) ?_
      simp only [go_sem]
      refine t_call_intro (e1) ?_
      simp only [go_sem]
      refine t_call_intro (e2) ?_
      simp only [z00, go_sem]
      refine t_call_intro (s2) ?_
      simp only [kq, beq_self_eq_true, go_sem]
      refine t_call_intro (s1) ?_
      simp only [kq, beq_self_eq_true, go_sem]
      refine t_call_intro (works39_den) ?_
      simp only [go_sem]
      simp only [aresult, ares, go_sem]
    · have n2 : (f != 0) = true := by simpa using hf
      have n3 : (f == 0) = false := by simpa using hf
      rw [ey hf] at e2
      subst he
      refine den_of_body k_law39_EntryDistinct ⟨rfl, Nat.le_of_ble_eq_true rfl, thaw_intro ?_⟩
      unfold c_law39_EntryDistinct
      simp only [go_sem]
      refine t_call_intro (fa) ?_
      simp only [go_sem]
      refine t_call_intro (fb) ?_
      simp only [go_sem]
      refine t_call_intro (e1) ?_
      simp only [go_sem]
      refine t_call_intro (e2) ?_
      simp only [z00, n2, n3, beq_self_eq_true, e00, go_sem]
      refine t_call_intro (works39_den) ?_
      simp only [go_sem]
      simp only [aresult, ares, go_sem]
  · have n0 : (e != 0) = true := by simpa using he
    have n1 : (e == 0) = false := by simpa using he
    rw [ex he] at e1
    by_cases hf : f = 0
    · subst hf
      refine den_of_body k_law39_EntryDistinct ⟨rfl, Nat.le_of_ble_eq_true rfl, thaw_intro ?_⟩
      unfold c_law39_EntryDistinct
      simp only [go_sem]
      refine t_call_intro (fa) ?_
      simp only [go_sem]
      refine t_call_intro (fb) ?_
      simp only [go_sem]
      refine t_call_intro (e1) ?_
      simp only [go_sem]
      refine t_call_intro (e2) ?_
      simp only [z00, n0, n1, beq_self_eq_true, e00, go_sem]
      refine t_call_intro (works39_den) ?_
      simp only [go_sem]
      simp only [aresult, ares, go_sem]
    · have n3 : (f == 0) = false := by simpa using hf
      rw [ey hf] at e2
      refine den_of_body k_law39_EntryDistinct ⟨rfl, Nat.le_of_ble_eq_true rfl, thaw_intro ?_⟩
      unfold c_law39_EntryDistinct
      simp only [go_sem]
      refine t_call_intro (fa) ?_
      simp only [go_sem]
      refine t_call_intro (fb) ?_
      simp only [go_sem]
      refine t_call_intro (e1) ?_
      simp only [go_sem]
      refine t_call_intro (e2) ?_
      simp only [n0, n1, n3, beq_self_eq_true, e00, go_sem]
      refine t_call_intro (works39_den) ?_
      simp only [go_sem]
      simp only [aresult, ares, go_sem]
def prE (s : ByteArray) : En := ⟨4, [], m0, s, 0⟩
theorem prE_fit (s : ByteArray) (h : s.size ≤ 20000) : (prE s).fit := ⟨Nat.zero_le _, (fun r h => by cases h), Nat.zero_le _, by show s.size ≤ _; omega, m63_0, m63_0⟩
theorem prE_S (s : ByteArray) : enS (prE s) = (⟨#[4]⟩ : ByteArray) ++ textB s := by
  have : vintB 4 = (⟨#[4]⟩ : ByteArray) := by kernel_rfl
  rw [← this]; rfl
theorem prE_un (s : ByteArray) : unB (prE s) = true := by simp [unB, prE, lZ, mZ, m0, e00]
theorem prE_E (s : ByteArray) : enE (prE s) = if sZ s = true then 1 else if 16384 < s.size then 2 else 0 := by
  unfold enE
  rw [prE_un]
  exact (if_neg (by simp)).trans ((if_neg (by decide : ¬ (4 : Int) = 2)).trans ((if_neg (by decide : ¬ (4 : Int) = 3)).trans (if_pos rfl)))
theorem prE_1 (s : ByteArray) (h : sZ s = true) : encE (prE s) = (⟨#[]⟩, 1) := by
  have hv : enE (prE s) = 1 := by rw [prE_E, h]; rfl
  unfold encE
  rw [hv]; rfl
theorem prE_2 (s : ByteArray) (h : sZ s = false) (hb : 4096 < 1 + (textB s).size) : encE (prE s) = (⟨#[]⟩, 2) := by
  unfold encE
  by_cases h16 : 16384 < s.size
  · have hv : enE (prE s) = 2 := by rw [prE_E, h]; exact if_pos h16
    rw [hv]; rfl
  · have hv : enE (prE s) = 0 := by rw [prE_E, h]; exact if_neg h16
    rw [hv, prE_S, ByteArray.size_append]
    exact if_pos hb
theorem prE_0 (s : ByteArray) (h : sZ s = false) (h16 : ¬ 16384 < s.size) (hb : ¬ 4096 < 1 + (textB s).size) : encE (prE s) = ((⟨#[4]⟩ : ByteArray) ++ textB s, 0) := by
  unfold encE
  have hv : enE (prE s) = 0 := by rw [prE_E, h]; exact if_neg h16
  rw [hv, prE_S, ByteArray.size_append]
  exact if_neg hb
set_option maxHeartbeats 4000000 in
theorem EntryLimits_den (s : ByteArray) : PDen Try.prog 3 [.a (.str s)] (.a (.bool true)) := by
  by_cases hs : s.size ≤ 20000
  rotate_left
  · have q : (20000 : Int) < (s.size : Int) := by omega
    refine den_of_body k_law39_EntryLimits ⟨rfl, Nat.le_of_ble_eq_true rfl, thaw_intro ?_⟩
    unfold c_law39_EntryLimits
    simp only [q, go_sem]
    refine t_call_intro (works39_den) ?_
    simp only [go_sem]
    simp only [aresult, ares, go_sem]
  have q : ¬ (20000 : Int) < (s.size : Int) := by omega
  have he0 := (encE_den (prE s) (prE_fit s hs)).args (show VLs [.agg (rawE (prE s))] [.agg (prE s).row] from ⟨VLe.agg (rawE_le _ rfl), trivial⟩)
  unfold encEV rawE prE m0 at he0
  simp only at he0
  have ht := rtext_den s (by omega)
  have zt := textB_size s (by omega)
  have z4 : (⟨#[4]⟩ : ByteArray).size = 1 := rfl
  have hD := edec_den ((⟨#[4]⟩ : ByteArray) ++ textB s) (by rw [ByteArray.size_append]; omega)
  have hS := prE_S s
  have hsz : s.size ≤ (textB s).size := by
    rw [← dsize (textB s), show (textB s).data.toList = Cw.text s.data.toList from rfl]
    unfold Cw.text
    rw [List.length_append, dsize]; omega
  cases hz : sZ s with
  | true =>
    have h1 : (s.toList == []) = true := hz
    have hE := prE_1 s hz
    unfold prE m0 at hE
    rw [hE] at he0
    refine den_of_body k_law39_EntryLimits ⟨rfl, Nat.le_of_ble_eq_true rfl, thaw_intro ?_⟩
    unfold c_law39_EntryLimits
    simp only [q, go_sem]
    refine t_call_intro (he0) ?_
    simp only [go_sem]
    refine t_call_intro (ht) ?_
    simp only [go_sem]
    refine t_gate_intro (by first | omega | (simp; omega)) ?_
    simp only [h1, e00, beq_self_eq_true, go_sem]
    refine t_call_intro (works39_den) ?_
    simp only [go_sem]
    simp only [aresult, ares, go_sem]
  | false =>
    have h1 : (s.toList == []) = false := hz
    by_cases hb : 4096 < 1 + (textB s).size
    · have qb : (4096 : Int) < ((1 + (textB s).size : Nat) : Int) := by omega
      have hE := prE_2 s hz hb
      have hX : decE ((⟨#[4]⟩ : ByteArray) ++ textB s).data.toList = (en0, 2) := by
        unfold decE
        rw [if_pos (by rw [dsize, ByteArray.size_append]; omega)]
      rw [hX] at hD
      unfold decEV at hD
      rw [rowe en0] at hD
      unfold prE m0 at hE
      rw [hE] at he0
      refine den_of_body k_law39_EntryLimits ⟨rfl, Nat.le_of_ble_eq_true rfl, thaw_intro ?_⟩
      unfold c_law39_EntryLimits
      simp only [q, go_sem]
      refine t_call_intro (he0) ?_
      simp only [go_sem]
      refine t_call_intro (ht) ?_
      simp only [go_sem]
      refine t_gate_intro (by first | omega | (simp; omega)) ?_
      simp only [h1, e00, beq_self_eq_true, z4, qb, go_sem]
      refine t_call_intro (hD) ?_
      simp only [beq_self_eq_true, e00, go_sem]
      refine t_call_intro (works39_den) ?_
      simp only [go_sem]
      simp only [aresult, ares, go_sem]
    · have qb : ¬ (4096 : Int) < ((1 + (textB s).size : Nat) : Int) := by omega
      have hE := prE_0 s hz (by omega) hb
      unfold prE m0 at hE
      rw [hE] at he0
      refine den_of_body k_law39_EntryLimits ⟨rfl, Nat.le_of_ble_eq_true rfl, thaw_intro ?_⟩
      unfold c_law39_EntryLimits
      simp only [q, go_sem]
      refine t_call_intro (he0) ?_
      simp only [go_sem]
      refine t_call_intro (ht) ?_
      simp only [go_sem]
      refine t_gate_intro (by first | omega | (simp; omega)) ?_
      simp only [h1, e00, beq_self_eq_true, z4, qb, go_sem]
      refine t_call_intro (works39_den) ?_
      simp only [go_sem]
      simp only [aresult, ares, go_sem]
end Go.Proofs.Ytpnihinmlmoogaa
