/- Chapter 06: what is encoded is decoded; two laws. -/
import Derived.Test.YtpfaahnpbkeddaaSg
import Derived.Test.YtpfaahnpbkeddaaSf2
import Derived.Test.YtpfaahnpbkeddaaAbV
set_option linter.unusedSimpArgs false
set_option linter.unusedVariables false
namespace Go.Proofs.Ytpfaahnpbkeddaa
open Go Ab Go.RowKit
set_option maxRecDepth 100000
attribute [local irreducible] awp aops aop asoft aeff aloop acall acallI acallT
attribute [local go_sem] Vl.row Pr.row

theorem key24 {s : ByteArray} (h : keyV s = true) : s.size ≤ 24 := by
  unfold keyV bytesOk at h
  simp only [Bool.and_eq_true, decide_eq_true_eq] at h
  exact h.2.1
theorem dPr_RT {l : List UInt8} {a n : Int} {p : Pr} (h : At l a n (prL p)) (hk : keyV p.key = true) (hv : valV p.v = true) (h0 : -Cw.M63 ≤ p.v.n) (h1 : p.v.n < Cw.M63) : dPr l a = (p, n, 0) := by
  have z := key24 hk
  obtain ⟨b, g1, g2⟩ := h.cut
  have hT : Cw.takeT l a 24 = (p.key.data.toList, b, 0) := takeT_RT (m := 24) g1 (by rw [dsize, Cw.m64]; omega) (by rw [dsize]; omega)
  have hV := decV_RT g2 hv h0 h1
  unfold dPr
  rw [hT]
  simp only [ne_eq, not_true_eq_false, if_false, hV, mk_L]
theorem prSt_RT (l : List UInt8) (a n : Int) (ps : List Pr) (h : At l a n (ps.map prL).flatten) (hk : ∀ p ∈ ps, keyV p.key = true ∧ valV p.v = true) (hs : ∀ p ∈ ps, p.small) : ∀ k, k ≤ ps.length → prSt l a k = (ps.take k, a + (((ps.take k).map prL).flatten.length : Int), 0)
  | 0, _ => by simp [prSt]
  | k + 1, hkk => by
    have ih := prSt_RT l a n ps h hk hs k (by omega)
    rw [flat_split prL ps k (by omega)] at h
    have HH := h.split.2.split.1
    have hm : ps[k] ∈ ps := List.getElem_mem (by omega)
    have hd := dPr_RT HH (hk _ hm).1 (hk _ hm).2 (hs _ hm).lo (hs _ hm).hi
    rw [prSt_ok l a k (by rw [ih]), ih]
    simp only []
    rw [hd, flat_next prL ps k (by omega), List.take_succ_eq_append_getElem (by omega)]
    simp only []
    rw [List.length_append]
    refine Prod.ext rfl (Prod.ext ?_ rfl)
    simp only []
    omega
theorem prL_pos (p : Pr) (h : p.small) : 1 ≤ (prL p).length := by
  have := textL_pos p.key (by have := h.ks; omega)
  unfold prL
  rw [List.length_append]; omega
theorem writes_all : ∀ (l : List Pr) (p : Option Pr), writesGo p l = true → ∀ x ∈ l, keyV x.key = true ∧ valV x.v = true
  | [], _, _, x, h => by cases h
  | y :: l, p, hq, x, h => by
    have e : writesGo p (y :: l) = (keyV y.key && valV y.v && prStep p y && writesGo (some y) l) := rfl
    rw [e] at hq
    simp only [Bool.and_eq_true] at hq
    rcases List.mem_cons.1 h with rfl | h
    · exact hq.1.1
    · exact writes_all l _ hq.2 x h
theorem decS_RT (l : List UInt8) (a n : Int) (ps : List Pr) (hv : stateV ps = true) (hs : ∀ p ∈ ps, p.small) (hl : ps.length ≤ 1048576) (h : At l a n (encL ps ps.length)) : decS l a = (ps, n, 0) := by
  unfold encL at h
  rw [List.take_length] at h
  obtain ⟨g1, g2⟩ := h.split
  have l2 := g2.len
  have hw : writesGo none ps = true := by
    unfold stateV at hv
    rw [Bool.and_eq_true] at hv
    exact hv.1
  have hp := flat_len prL ps fun p hp => prL_pos p (hs p hp)
  have hC : dC l a = (ps.length, _, 0) := takeC_RT (m := 2147483647) g1 (by rw [Cw.m64]; omega) (by omega) (by omega)
  have hS := prSt_RT l _ n ps g2 (writes_all ps none hw) hs ps.length (Nat.le_refl _)
  rw [List.take_length, ← l2.2.1] at hS
  unfold decS
  rw [hC]
  simp only [ne_eq, not_true_eq_false, if_false]
  rw [hS]
  simp [hv]
theorem decS_ok (l : List UInt8) (a : Int) (h : (decS l a).2.2 = 0) : stateV (decS l a).1 = true := by
  unfold decS at h ⊢
  by_cases h1 : (dC l a).2.2 ≠ 0
  · rw [if_pos h1] at h; exact absurd h h1
  · rw [if_neg h1] at h ⊢
    by_cases h2 : (prSt l (dC l a).2.1 (dC l a).1).2.2 ≠ 0
    · rw [if_pos h2] at h; exact absurd h h2
    · rw [if_neg h2] at h ⊢
      by_cases h3 : stateV (prSt l (dC l a).2.1 (dC l a).1).1 = true
      · rw [if_pos h3]; exact h3
      · rw [if_neg h3] at h; exact absurd h (by decide)
theorem decS_in (l : List UInt8) (a : Int) : ∀ p ∈ (decS l a).1, p.key.size ≤ l.length ∧ p.v.s.size ≤ l.length := by
  have z : ∀ e : Int, ∀ p ∈ (([], 0, e) : List Pr × Int × Int).1, p.key.size ≤ l.length ∧ p.v.s.size ≤ l.length := fun e p h => by cases h
  unfold decS
  split
  · exact z _
  · split
    · exact z _
    · split
      · intro p hp
        have := prSt_in l _ _ p hp
        exact ⟨this.1, this.2.1⟩
      · exact z _
theorem decS_len (l : List UInt8) (a : Int) : (decS l a).1.length ≤ 2147483647 := by
  have h1 := dC_le l a
  have h2 := prSt_len l (dC l a).2.1 (dC l a).1
  unfold decS
  split
  · exact Nat.zero_le _
  · split
    · exact Nat.zero_le _
    · split
      · simp only; omega
      · exact Nat.zero_le _
/-! Arguments -/
theorem unU_string {n : Nat} {xs : List Atom} (h : HasU Try.prog (n + 1) 9 xs) : ∃ s : ByteArray, xs = [.str s] ∧ s.size ≤ 1048576 := by
  unfold HasU at h; rw [Try.underlying9] at h; exact h
theorem unU_string1 {n : Nat} {x : Atom} (h : HasU Try.prog (n + 1) 9 [x]) : ∃ s : ByteArray, x = .str s ∧ s.size ≤ 1048576 := by
  obtain ⟨s, e, hs⟩ := unU_string h
  exact ⟨s, by simpa using e, hs⟩
theorem unU_i64 {n : Nat} {xs : List Atom} (h : HasU Try.prog (n + 1) 2 xs) : ∃ m, xs = [.int .i64 m] ∧ (Lit.int IntKind.i64 m).wf = true := by
  unfold HasU at h; rw [Try.underlying2] at h; exact h
theorem unU_int {n : Nat} {xs : List Atom} (h : HasU Try.prog (n + 1) 3 xs) : ∃ m, xs = [.int .i64 m] := by
  unfold HasU at h; rw [Try.underlying3] at h; obtain ⟨m, h, _⟩ := h; exact ⟨m, h⟩
theorem wf_in {m : Int} (h : (Lit.int IntKind.i64 m).wf = true) : -Cw.M63 ≤ m ∧ m < Cw.M63 := by
  simp only [Lit.wf, Bool.and_eq_true, decide_eq_true_eq] at h
  have ma : IntKind.max .i64 = 9223372036854775807 := by decide
  have mi : IntKind.min .i64 = -9223372036854775808 := by decide
  rw [ma, mi] at h
  rw [Cw.m63]; omega
theorem unU_value {n : Nat} {xs : List Atom} (h : HasU Try.prog (n + 2) 37 xs) : ∃ v : Vl, xs = v.row ∧ v.s.size ≤ 1048576 ∧ -Cw.M63 ≤ v.n ∧ v.n < Cw.M63 := by
  unfold HasU at h; rw [Try.underlying37] at h
  obtain ⟨p1, r1, rfl, h1, p2, r2, rfl, h2, p3, r3, rfl, h3, rfl⟩ := h
  obtain ⟨a, rfl⟩ := unU_int h1
  obtain ⟨b, rfl, hb⟩ := unU_i64 h2
  obtain ⟨c, rfl, hc⟩ := unU_string h3
  exact ⟨⟨a, b, c⟩, rfl, hc, wf_in hb⟩
theorem unU_pair {n : Nat} {xs : List Atom} (h : HasU Try.prog (n + 3) 41 xs) : ∃ p : Pr, xs = p.row ∧ p.small := by
  unfold HasU at h; rw [Try.underlying41] at h
  obtain ⟨p1, r1, rfl, h1, p2, r2, rfl, h2, rfl⟩ := h
  obtain ⟨k, rfl, hk⟩ := unU_string h1
  obtain ⟨v, rfl, hv⟩ := unU_value h2
  exact ⟨⟨k, v⟩, rfl, ⟨hk, hv.1, hv.2.1, hv.2.2⟩⟩
theorem unU_rows {α : Type} {f : α → List Atom} {Q : α → Prop} : ∀ {rows : List (List Atom)}, (∀ r ∈ rows, ∃ a, r = f a ∧ Q a) → ∃ l : List α, rows = l.map f ∧ ∀ a ∈ l, Q a
  | [], _ => ⟨[], rfl, fun a h => by cases h⟩
  | r :: rows, h => by
    obtain ⟨a, rfl, ha⟩ := h r (by simp)
    obtain ⟨l, rfl, hl⟩ := unU_rows (rows := rows) fun r hr => h r (by simp [hr])
    exact ⟨a :: l, rfl, fun b hb => by
      rcases List.mem_cons.1 hb with rfl | hb
      · exact ha
      · exact hl b hb⟩
theorem cells_pairU : Try.prog.cellsOf 41 = 4 := by kernel_rfl
structure PrsU (l : List Pr) : Prop where
  len : l.length ≤ 1048576
  all : ∀ p ∈ l, p.small
theorem unU_pairs {n : Nat} {x : Atom} (h : HasU Try.prog (n + 4) 22 [x]) : ∃ l : List Pr, x = .slice 4 (l.map Pr.row) ∧ PrsU l := by
  unfold HasU at h; rw [Try.underlying22] at h
  obtain ⟨rows, e, hn, hr⟩ := h
  obtain ⟨l, rfl, hl⟩ := unU_rows fun r hrr => unU_pair (hr r hrr)
  rw [List.length_map] at hn
  exact ⟨l, by rw [cells_pairU] at e; simpa using e, ⟨hn, hl⟩⟩
/-- What a list weighs bounds its encoding. -/
theorem szA_prs (l : List Pr) (h : ∀ p ∈ l, p.small) : ((l.map prL).flatten).length ≤ 8 * szRs (l.map Pr.row) := by
  induction l with
  | nil => simp [szRs]
  | cons p l ih =>
    have h1 := prL_len p (h p (by simp))
    have h2 := ih fun q hq => h q (by simp [hq])
    simp only [List.map_cons, List.flatten_cons, List.length_append, szRs, Pr.row, szL, szA]
    omega
theorem encL_small (l : List Pr) (hl : PrsU l) (hs : szA (.slice 4 (l.map Pr.row)) ≤ 1048576) : (encL l l.length).length ≤ 8388618 := by
  have h1 := szA_prs l hl.all
  simp only [szA] at hs
  have h0 := vintB_size l.length (by have := hl.len; rw [Cw.m64]; omega)
  rw [← dsize] at h0
  unfold encL
  rw [List.take_length, List.length_append]
  have : (vintB l.length).data.toList = Cw.vint l.length := by simp [vintB]
  rw [this] at h0
  omega
set_option maxHeartbeats 4000000 in
theorem StateCodes_den (l : List Pr) (s : ByteArray) (at_ : Int) (hl : PrsU l) (hs : s.size ≤ 1048576) : PDen Try.prog 3 [.a (.slice 4 (l.map Pr.row)), .a (.str s), .a (.int .i64 at_)] (.a (.bool true)) := by
  have d1 := sdec_den s at_ (by omega)
  have d2 := rsdec_den s at_ (by omega)
  have hn := decS_len s.data.toList at_
  unfold decSV at d1 d2
  generalize decS s.data.toList at_ = X at d1 d2 hn
  obtain ⟨x, i, e⟩ := X
  simp only [] at d1 d2 hn
  refine den_of_body k_law06_StateCodes ⟨rfl, Nat.le_of_ble_eq_true rfl, thaw_intro ?_⟩
  unfold c_law06_StateCodes
  simp only [go_sem]
  refine t_call_intro (d1) ?_
  simp only [go_sem]
  refine t_call_intro (d2) ?_
  simp only [go_sem]
  refine t_call_intro (senc_den l hl.len hl.all) ?_
  simp only [go_sem]
  refine t_call_intro (rsenc_den l hl.len hl.all) ?_
  simp only [beq_self_eq_true, go_sem]
  refine t_call_intro (same_den x (by omega)) ?_
  simp only [beq_self_eq_true, go_sem]
  refine t_call_intro (examples_den) ?_
  simp only [go_sem]
  simp only [aresult, ares, go_sem]
set_option maxHeartbeats 4000000 in
theorem StateRoundTrips_den (l : List Pr) (b a : ByteArray) (hl : PrsU l) (hz : szA (.slice 4 (l.map Pr.row)) ≤ 1048576) (hb : b.size ≤ 1048576) (ha : a.size ≤ 1048576) : PDen Try.prog 4 [.a (.slice 4 (l.map Pr.row)), .a (.str b), .a (.str a)] (.a (.bool true)) := by
  have hE := encL_small l hl hz
  rw [← encB_size] at hE
  have zz : ((b ++ encB l l.length) ++ a).size ≤ 1073741824 := by rw [ByteArray.size_append, ByteArray.size_append]; omega
  have d := sdec_den ((b ++ encB l l.length) ++ a) b.size zz
  have hv := stateV_den l (by have := hl.len; omega) (fun p hp => ⟨by have := (hl.all p hp).ks; omega, by have := (hl.all p hp).vs; omega⟩)
  have hRT : stateV l = true → decS ((b ++ encB l l.length) ++ a).data.toList b.size = (l, ((b.size : Nat) : Int) + ((encB l l.length).size : Int), 0) := fun h => by
    refine decS_RT _ _ _ l h hl.all hl.len ?_
    have hA := At.whole b.data.toList (encL l l.length) a.data.toList
    rw [app_L, app_L, encB_L, encB_size, List.append_assoc]
    rw [dsize] at hA
    exact hA
  have hok := decS_ok ((b ++ encB l l.length) ++ a).data.toList b.size
  have hin := decS_in ((b ++ encB l l.length) ++ a).data.toList b.size
  have hln := decS_len ((b ++ encB l l.length) ++ a).data.toList b.size
  rw [dsize] at hin
  unfold decSV at d
  have he := senc_den l hl.len hl.all
  generalize encB l l.length = B at d he hRT hok hin hln hE zz
  have ewr : IntKind.i64.wrap (((b.size : Nat) : Int) + ((B.size : Nat) : Int)) = ((b.size : Nat) : Int) + ((B.size : Nat) : Int) := by rw [IntKind.wrap_i64]; omega
  refine den_of_body k_law06_StateRoundTrips ⟨rfl, Nat.le_of_ble_eq_true rfl, thaw_intro ?_⟩
  unfold c_law06_StateRoundTrips
  simp only [go_sem]
  refine t_call_intro (he) ?_
  simp only [go_sem]
  refine t_gate_intro (by omega) ?_
  simp only [go_sem]
  refine t_gate_intro (by first | omega | (rw [ByteArray.size_append]; omega)) ?_
  simp only [go_sem]
  refine t_call_intro (d) ?_
  cases hq : stateV l with
  | true =>
    rw [hRT hq]
    rw [hq] at hv
    simp only [go_sem]
    refine t_call_intro (hv) ?_
    simp only [beq_self_eq_true, ewr, go_sem]
    refine t_call_intro (same_den l (by have := hl.len; omega)) ?_
    simp only [go_sem]
    refine t_call_intro (examples_den) ?_
    simp only [go_sem]
    simp only [aresult, ares, go_sem]
  | false =>
    rw [hq] at hv
    generalize decS ((b ++ B) ++ a).data.toList b.size = X at hok hin hln
    obtain ⟨x, i, e⟩ := X
    simp only [] at hok hin hln
    simp only [go_sem]
    refine t_call_intro (hv) ?_
    by_cases h0 : e = 0
    · subst h0
      have hx := stateV_den x (by omega) (fun p hp => ⟨by have := (hin p hp).1; omega, by have := (hin p hp).2; omega⟩)
      rw [hok rfl] at hx
      have n0 : ((0 : Int) != 0) = false := rfl
      simp only [n0, go_sem]
      refine t_call_intro (hx) ?_
      simp only [go_sem]
      refine t_call_intro (examples_den) ?_
      simp only [go_sem]
      simp only [aresult, ares, go_sem]
    · have n0 : (e != 0) = true := by simpa using h0
      simp only [n0, go_sem]
      refine t_call_intro (examples_den) ?_
      simp only [go_sem]
      simp only [aresult, ares, go_sem]
end Go.Proofs.Ytpfaahnpbkeddaa
