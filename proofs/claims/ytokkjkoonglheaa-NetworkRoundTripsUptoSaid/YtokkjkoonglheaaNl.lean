/- Chapter 40: the laws of the codec, walked; arguments. -/
import Derived.Test.YtokkjkoonglheaaNp
import Derived.Test.YtokkjkoonglheaaAbV
set_option linter.unusedSimpArgs false
set_option linter.unusedVariables false
namespace Go.Proofs.Ytokkjkoonglheaa
open Go Ab Go.RowKit
set_option maxRecDepth 100000
attribute [local irreducible] awp aops aop asoft aeff aloop acall acallI acallT
attribute [local go_sem] Msg.row itemsA

theorem msgL_tot (l : List Itm) (h1 : ∀ x ∈ l, in63 x.term) (h2 : ∀ x ∈ l, x.data.size ≤ 1048576) : ((l.map itL).flatten).length ≤ 10 * szRs (l.map Itm.row) := by
  induction l with
  | nil => simp [szRs]
  | cons p l ih =>
    have g1 := intL_len _ (h1 p (by simp))
    have g2 := textL_len _ (h2 p (by simp))
    have g3 := ih (fun q hq => h1 q (by simp [hq])) (fun q hq => h2 q (by simp [hq]))
    simp only [List.map_cons, List.flatten_cons, List.length_append, szRs, Itm.row, szL, szA, itL]
    omega
/-- What an argument is, and how much. -/
structure Msg.arg (m : Msg) : Prop where
  sm : m.smal
  tot : szL m.row ≤ 1048576
theorem Msg.arg.length {m : Msg} (h : m.arg) : (msgL m m.items.length).length ≤ 20000000 := by
  have h1 := msgL_tot m.items h.sm.num.its h.sm.dat
  have h2 := (headL_len m h.sm).2
  have h3 := h.tot
  simp only [Msg.row, itemsA, szL, szA] at h3
  unfold msgL
  rw [List.take_length, List.length_append]
  omega
set_option maxHeartbeats 4000000 in
theorem NetworkCodes_den (m : Msg) (hm : m.smal) (s : ByteArray) (hs : s.size ≤ 1048576) : PDen Try.prog 3 [.agg m.row, .a (.str s)] (.a (.bool true)) := by
  have hd := ndec_den s (by omega)
  have hr := rndec_den s (by omega)
  have he := nenc_den m hm
  have hf := rnenc_den m hm
  have hi := decM_items s.data.toList
  have hq := rsame_den (decM s.data.toList).1 (decM s.data.toList).1 (by omega) (by omega)
  rw [sameM_refl] at hq
  unfold decMA at hd hr
  generalize decM s.data.toList = D at hd hr hi hq
  obtain ⟨d, e⟩ := D
  simp only [] at hd hr hi hq
  generalize byt (msgL m m.items.length) = B at he hf
  have eB : (B.toList == B.toList) = true := by simp
  refine den_of_body k_law40_NetworkCodes ⟨rfl, Nat.le_of_ble_eq_true rfl, thaw_intro ?_⟩
  unfold c_law40_NetworkCodes
  simp only [go_sem]
  refine t_call_intro (hd) ?_
  simp only [go_sem]
  refine t_call_intro (hr) ?_
  simp only [go_sem]
  refine t_call_intro (he) ?_
  simp only [go_sem]
  refine t_call_intro (hf) ?_
  simp only [eB, go_sem]
  refine t_call_intro (hq) ?_
  simp only [beq_self_eq_true, go_sem]
  refine t_call_intro (examples_den) ?_
  simp only [go_sem]
  simp only [aresult, ares, go_sem]
set_option maxHeartbeats 8000000 in
theorem NetworkRoundTrips_den (m : Msg) (ha : m.arg) (s : ByteArray) (hs : s.size ≤ 1048576) : PDen Try.prog 4 [.agg m.row, .a (.str s)] (.a (.bool true)) := by
  have hm := ha.sm
  have hln := ha.length
  have hml := hm.len
  have he := nenc_den m hm
  have hcs : (byt (msgL m m.items.length)).size ≤ 20000000 := by rw [byt_size]; exact hln
  have hd := ndec_den (byt (msgL m m.items.length)) (by omega)
  have hd2 := ndec_den s (by omega)
  rw [byt_L] at hd
  have hi2 := decM_items s.data.toList
  have his := decM_IS s.data.toList
  have hz := bigK_zero m
  have hen := bigK_end m
  have hok := decM_back m hm
  have hbe := decM_bigE m hm
  have hmore : m.big = false → PDen Try.prog 5 [.a (.str (byt (msgL m m.items.length) ++ ⟨#[0]⟩))] (decMA (zeroM, 5)) := fun hb => by
    have h := ndec_den (byt (msgL m m.items.length) ++ ⟨#[0]⟩) (by rw [ByteArray.size_append]; have : (⟨#[0]⟩ : ByteArray).size = 1 := rfl; omega)
    rw [app_L, byt_L] at h
    rw [← decM_more m hm hb 0]
    exact h
  have hless : m.big = false → ∃ d e, e ≠ 0 ∧ PDen Try.prog 5 [.a (.str ((byt (msgL m m.items.length)).extract 0 ((byt (msgL m m.items.length)).size - 1)))] (decMA (d, e)) := fun hb => by
    have eL : ((byt (msgL m m.items.length)).extract 0 ((byt (msgL m m.items.length)).size - 1)).data.toList = (msgL m m.items.length).take ((msgL m m.items.length).length - 1) := by
      rw [byt_size]
      simp [byt, List.dropLast_eq_take]
    have h := ndec_den ((byt (msgL m m.items.length)).extract 0 ((byt (msgL m m.items.length)).size - 1)) (by rw [ByteArray.size_extract]; omega)
    rw [eL] at h
    exact ⟨_, _, decM_less m hm hb, h⟩
  have hnine : 9 ≤ (byt (msgL m m.items.length)).size := by
    rw [byt_size]
    have p0 := fun n hn => intL_pos n (hm.num.all n hn)
    have p := flat_len intL (nums m) p0
    rw [nums_len] at p
    have h2 : (Cw.boolB m.ok).length = 1 := by cases m.ok <;> rfl
    have h3 := vint_pos m.items.length (by rw [Cw.m64]; omega)
    unfold msgL headL midL
    rw [numL_all]
    simp only [List.length_append]
    omega
  have hsame := rsame_den m m (by omega) (by omega)
  rw [sameM_refl] at hsame
  have hsb : (decM s.data.toList).2 = 0 → PDen Try.prog 7 [.agg (decM s.data.toList).1.row] (.a (.str s)) := fun h => by
    have q := nenc_den _ (his h).2.1
    rw [← (his h).1] at q
    have : byt s.data.toList = s := mk_L s
    rw [this] at q
    exact q
  clear his hm
  generalize byt (msgL m m.items.length) = B at he hcs hd hmore hless hnine
  generalize decM (msgL m m.items.length) = X at hd hok hbe
  obtain ⟨got, e⟩ := X
  generalize decM s.data.toList = Y at hd2 hi2 hsb
  obtain ⟨other, e2⟩ := Y
  unfold decMA at hd hd2 hmore hless
  simp only [] at hd hd2 hi2 hsb hok hbe
  have ewB : IntKind.i64.wrap ((B.size : Int) - 1) = ((B.size - 1 : Nat) : Int) := by rw [IntKind.wrap_i64]; omega
  have q00 : ((0 : Int) != 0) = false := rfl
  have q55 : ((5 : Int) != 5) = false := rfl
  have hn9 : ¬ (B.size : Int) < 9 := by omega
  have eS : (s.toList == s.toList) = true := by simp
  refine den_of_body k_law40_NetworkRoundTrips ⟨rfl, Nat.le_of_ble_eq_true rfl, thaw_intro ?_⟩
  unfold c_law40_NetworkRoundTrips
  simp only [go_sem]
  refine t_call_intro (he) ?_
  simp only [go_sem]
  refine t_call_intro (hd) ?_
  simp only [go_sem]
  refine t_loop_intro (fun k : Nat => k ≤ m.items.length) (fun k => m.items.length - k) 0 [8, 9, 27, 28, 29, 30, 31, 32, 33, 34, 35, 36, 37, 38, 39, 40, 41, 42, 43, 44] (fun k => [(8, .a (.bool (bigK m k))), (9, .a (.int .i64 k))]) (by omega) (by first | (simp; done) | simp [hz]) (fun k => by simp) rfl ?_
  intro k hk fr_ hfr
  simp only [go_sem] at hfr
  subst hfr
  by_cases hlt : k < m.items.length
  · have h1 : (k : Int) < (m.items.length : Int) := by omega
    have eg := getD_map Itm.row m.items k hlt
    have er : m.items[k].row = [.int .i64 m.items[k].term, .str m.items[k].data] := rfl
    have ew := wrap1 k m.items.length hlt (by omega)
    have es := bigK_step m k hlt
    cases hq : bigK m k with
    | false =>
      rw [hq, Bool.false_or] at es
      simp only [h1, hlt, eg, er, ew, go_sem]
      refine t_round (k + 1) (by omega) (by omega) (by first | (simp; done) | simp [es]) rfl rfl (by simp) rfl
    | true =>
      rw [hq, Bool.true_or] at es
      simp only [h1, hlt, eg, er, ew, go_sem]
      refine t_round (k + 1) (by omega) (by omega) (by first | (simp; done) | simp [es]) rfl rfl (by simp) rfl
  · have h1 : ¬ (k : Int) < (m.items.length : Int) := by omega
    have ek : k = m.items.length := by omega
    subst ek
    rw [hen]
    cases hbg : m.big with
    | false =>
      have hX := hok hbg
      simp only [Prod.mk.injEq] at hX
      obtain ⟨rfl, rfl⟩ := hX
      obtain ⟨dl, el, hel, hl⟩ := hless hbg
      have nel : (el == 0) = false := by simpa using hel
      simp only [h1, go_sem]
      refine t_gate_intro (by have h8 : (#[0] : Array UInt8).size = 1 := rfl; omega) ?_
      simp only [go_sem]
      refine t_call_intro (hmore hbg) ?_
      simp only [q00, go_sem]
      refine t_call_intro (hsame) ?_
      simp only [q55, hn9, ewB, go_sem]
      refine t_gate_intro (by omega) ?_
      simp only [go_sem]
      refine t_call_intro (hl) ?_
      simp only [nel, go_sem]
      refine t_call_intro (hd2) ?_
      by_cases h0 : e2 = 0
      · have n0 : (e2 != 0) = false := by simpa using h0
        simp only [n0, go_sem]
        refine t_call_intro (hsb h0) ?_
        simp only [eS, q00, beq_self_eq_true, go_sem]
        refine t_call_intro (examples_den) ?_
        simp only [go_sem]
        simp only [aresult, ares, go_sem]
      · have n0 : (e2 != 0) = true := by simpa using h0
        simp only [n0, q00, beq_self_eq_true, go_sem]
        refine t_call_intro (examples_den) ?_
        simp only [go_sem]
        simp only [aresult, ares, go_sem]
    | true =>
      have hE := hbe hbg
      have nE : (e != 0) = true := by simpa using hE
      simp only [h1, go_sem]
      refine t_call_intro (hd2) ?_
      by_cases h0 : e2 = 0
      · have n0 : (e2 != 0) = false := by simpa using h0
        simp only [n0, go_sem]
        refine t_call_intro (hsb h0) ?_
        simp only [eS, nE, beq_self_eq_true, go_sem]
        refine t_call_intro (examples_den) ?_
        simp only [go_sem]
        simp only [aresult, ares, go_sem]
      · have n0 : (e2 != 0) = true := by simpa using h0
        simp only [n0, nE, beq_self_eq_true, go_sem]
        refine t_call_intro (examples_den) ?_
        simp only [go_sem]
        simp only [aresult, ares, go_sem]
/-! Arguments -/
theorem unU_string {n : Nat} {xs : List Atom} (h : HasU Try.prog (n + 1) 9 xs) : ∃ s : ByteArray, xs = [.str s] ∧ s.size ≤ 1048576 := by
  unfold HasU at h; rw [Try.underlying9] at h; exact h
theorem unU_string1 {n : Nat} {x : Atom} (h : HasU Try.prog (n + 1) 9 [x]) : ∃ s : ByteArray, x = .str s ∧ s.size ≤ 1048576 := by
  obtain ⟨s, e, hs⟩ := unU_string h
  exact ⟨s, by simpa using e, hs⟩
theorem unU_int {n : Nat} {xs : List Atom} (h : HasU Try.prog (n + 1) 3 xs) : ∃ m, xs = [.int .i64 m] ∧ in63 m := by
  unfold HasU at h; rw [Try.underlying3] at h; obtain ⟨m, e, h⟩ := h
  simp only [Lit.wf, Bool.and_eq_true, decide_eq_true_eq] at h
  have ma : IntKind.max .i64 = 9223372036854775807 := by decide
  have mi : IntKind.min .i64 = -9223372036854775808 := by decide
  rw [ma, mi] at h
  exact ⟨m, e, by unfold in63; rw [Cw.m63]; omega⟩
theorem unU_bool {n : Nat} {xs : List Atom} (h : HasU Try.prog (n + 1) 4 xs) : ∃ b, xs = [.bool b] := by
  unfold HasU at h; rw [Try.underlying4] at h; exact h
theorem unU_rows {α : Type} {f : α → List Atom} {Q : α → Prop} : ∀ {rows : List (List Atom)}, (∀ r ∈ rows, ∃ a, r = f a ∧ Q a) → ∃ l : List α, rows = l.map f ∧ ∀ a ∈ l, Q a
  | [], _ => ⟨[], rfl, fun a h => by cases h⟩
  | r :: rows, h => by
    obtain ⟨a, rfl, ha⟩ := h r (by simp)
    obtain ⟨l, rfl, hl⟩ := unU_rows (rows := rows) fun r hr => h r (by simp [hr])
    exact ⟨a :: l, rfl, fun b hb => by
      rcases List.mem_cons.1 hb with rfl | hb
      · exact ha
      · exact hl b hb⟩
theorem unU_item {n : Nat} {xs : List Atom} (h : HasU Try.prog (n + 2) 33 xs) : ∃ v : Itm, xs = v.row ∧ in63 v.term ∧ v.data.size ≤ 1048576 := by
  unfold HasU at h; rw [Try.underlying33] at h
  obtain ⟨p1, r1, rfl, h1, p2, r2, rfl, h2, rfl⟩ := h
  obtain ⟨a, rfl, ha⟩ := unU_int h1
  obtain ⟨b, rfl, hb⟩ := unU_string h2
  exact ⟨⟨a, b⟩, rfl, ha, hb⟩
theorem cells_itemU : Try.prog.cellsOf 33 = 2 := by kernel_rfl
theorem unU_msg {n : Nat} {xs : List Atom} (h : HasU Try.prog (n + 4) 24 xs) : ∃ m : Msg, xs = m.row ∧ m.smal := by
  unfold HasU at h; rw [Try.underlying24] at h
  obtain ⟨p1, r1, rfl, h1, p2, r2, rfl, h2, p3, r3, rfl, h3, p4, r4, rfl, h4, p5, r5, rfl, h5, p6, r6, rfl, h6, p7, r7, rfl, h7, p8, r8, rfl, h8, p9, r9, rfl, h9, rfl⟩ := h
  obtain ⟨x1, rfl, q1⟩ := unU_int h1
  obtain ⟨x2, rfl, q2⟩ := unU_int h2
  obtain ⟨x3, rfl, q3⟩ := unU_int h3
  obtain ⟨x4, rfl, q4⟩ := unU_int h4
  obtain ⟨x5, rfl, q5⟩ := unU_int h5
  obtain ⟨x6, rfl, q6⟩ := unU_int h6
  obtain ⟨x7, rfl, q7⟩ := unU_int h7
  obtain ⟨x8, rfl⟩ := unU_bool h8
  change HasU Try.prog (n + 3) 22 p9 at h9
  unfold HasU at h9; rw [Try.underlying22] at h9
  obtain ⟨rows, rfl, hn, hr⟩ := h9
  obtain ⟨l, rfl, hl⟩ := unU_rows fun r hrr => unU_item (hr r hrr)
  rw [List.length_map] at hn
  refine ⟨⟨x1, x2, x3, x4, x5, x6, x7, x8, l⟩, by rw [cells_itemU]; rfl, ⟨⟨fun n hn => ?_, fun x hx => (hl x hx).1⟩, hn, fun x hx => (hl x hx).2⟩⟩
  simp only [nums, List.mem_cons, List.not_mem_nil, or_false] at hn
  rcases hn with rfl | rfl | rfl | rfl | rfl | rfl | rfl <;> assumption
end Go.Proofs.Ytokkjkoonglheaa
